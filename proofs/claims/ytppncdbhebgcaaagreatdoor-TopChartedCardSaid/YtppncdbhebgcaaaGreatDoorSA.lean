
/- The data of package swaps, as Lean sees it, and how they lie in memory. The walks of the small functions of shellacref01: Within, In, SameInts, Rising. The walks of the small functions of package swaps. The walks of what a visit asks of a plan: boxes, changes, all, earns, sum, fits. The walks of sum, all and fits. The walk of fits. The walks of plans and each: all plans that fit, one after another. The walk of best. The walk of parse. The walk of open. The walks of slices.ContainsFunc and slices.Contains, at the instances that swaps uses. The walk of swaps.Check: what it returns, whatever the visit. The walks of Best, gain, Copy and Change, for a valid visit. The walk of Fewest. The walk of Fair. -/
import Derived.Test.YtppncdbhebgcaaaGreatDoorVA
import Derived.Test.YtppncdbhebgcaaaGreatDoorRows
import Derived.Deep.RegionWith
import Derived.LoopIn
namespace Go.Proofs.YtppncdbhebgcaaaGreatDoor
open Go.RowKit

theorem PairsAt.at {w : World} {p : Option Addr} {l : List (Int × Int)} (h : PairsAt w p l) (i : Nat) (hi : i < l.length) :
    ∃ b o, p = some ⟨b, o, none⟩ ∧ w.cell? ⟨b, o + i * 2, none⟩ = some (.int .i64 l[i].1) ∧ w.cell? ⟨b, o + i * 2 + 1, none⟩ = some (.int .i64 l[i].2) := h i hi
theorem Rises.take_succ {l : List Int} {lo hi : Int} {k : Nat} (hk : k < l.length) (h : Rises (l.take k) lo hi) (h1 : lo ≤ l[k]) (h2 : l[k] ≤ hi) (h3 : ∀ j (h : j + 1 = k), l[j]'(by omega) < l[k]) : Rises (l.take (k + 1)) lo hi := by
  obtain ⟨ha, hb⟩ := h
  refine ⟨fun i hi' => ?_, fun i hi' => ?_⟩
  · simp only [List.length_take] at hi'
    rw [List.getElem_take]
    by_cases e : i = k
    · subst e; exact ⟨h1, h2⟩
    · have := ha i (by simp only [List.length_take]; omega)
      rwa [List.getElem_take] at this
  · simp only [List.length_take] at hi'
    rw [List.getElem_take, List.getElem_take]
    by_cases e : i + 1 = k
    · subst e; exact h3 i rfl
    · have := hb i (by simp only [List.length_take]; omega)
      rwa [List.getElem_take, List.getElem_take] at this
theorem Ext.trans' {a b c : World} (h : Ext a b) (k : Below a.heap.size b c) : Ext a c := Below.trans h k
theorem Ext.set {a b : World} {c o : Nat} {u : Value} (h : Ext a b) (h0 : a.heap.size ≤ c) : Ext a (b.setCell ⟨c, o, none⟩ u) := h.setCell (p := ⟨c, o, none⟩) h0 u
theorem Rises.mem {l : List Int} {lo hi : Int} (h : Rises l lo hi) : ∀ n ∈ l, lo ≤ n ∧ n ≤ hi := by
  intro n hn
  obtain ⟨i, hi, rfl⟩ := List.getElem_of_mem hn
  exact h.1 i hi
theorem RetE.of {P : Prop} {b : Bool} {w w' : World} (hw : Ext w w') (h : b = true ↔ P) : RetE (.bool (bP P)) w (.returned (.bool b)) w' := ⟨by rw [Bool.eq_iff_iff.2 (h.trans bP_iff.symm)], hw⟩
theorem RetQ.of {P : Prop} {b : Bool} {w w' : World} (hw : Qt w w') (h : b = true ↔ P) : RetQ (.bool (bP P)) w (.returned (.bool b)) w' := ⟨by rw [Bool.eq_iff_iff.2 (h.trans bP_iff.symm)], hw⟩
end Go.Proofs.YtppncdbhebgcaaaGreatDoor
namespace Go.Proofs.YtppncdbhebgcaaaGreatDoor.Sw7
open Go.RowKit

structure Swap where
  boxes : List (List Int)
  stock : List Int
  earn : List (List Int)
  keeps : List (Int × Int)
  changes : Int

structure Visit where
  S : Swap
  now : Nat → Nat
  keeps : Nat → Nat
  copies : Nat → Int

def pl3 (f : Nat → Nat) : Value := .agg #[.int .u64 (f 0), .int .u64 (f 1), .int .u64 (f 2)]

/-- a swap by value -/
def SwapV (w : World) (v : Value) (S : Swap) : Prop := ∃ p0 c0 p1 c1 p2 c2 p3 c3,
  v = .agg #[.slice p0 S.boxes.length c0, .slice p1 S.stock.length c1, .slice p2 S.earn.length c2, .slice p3 S.keeps.length c3, .int .i64 S.changes] ∧
  ListsAt w p0 S.boxes ∧ IntsAt w p1 S.stock ∧ ListsAt w p2 S.earn ∧ PairsAt w p3 S.keeps
theorem SwapV.mono : Mono SwapV := by
  rintro w w' v S hE ⟨p0, c0, p1, c1, p2, c2, p3, c3, rfl, h0, h1, h2, h3⟩
  exact ⟨p0, c0, p1, c1, p2, c2, p3, c3, rfl, h0.ext hE, h1.ext hE, h2.ext hE, h3.ext hE⟩

def visitCells (p0 : Option Addr) (c0 : Nat) (p1 : Option Addr) (c1 : Nat) (p2 : Option Addr) (c2 : Nat) (p3 : Option Addr) (c3 : Nat) (V : Visit) : Array Value :=
  #[.slice p0 V.S.boxes.length c0, .slice p1 V.S.stock.length c1, .slice p2 V.S.earn.length c2, .slice p3 V.S.keeps.length c3, .int .i64 V.S.changes,
    .int .u64 (V.now 0), .int .u64 (V.now 1), .int .u64 (V.now 2), .int .u64 (V.keeps 0), .int .u64 (V.keeps 1), .int .u64 (V.keeps 2),
    .int .i64 (V.copies 0), .int .i64 (V.copies 1), .int .i64 (V.copies 2), .int .i64 (V.copies 3), .int .i64 (V.copies 4), .int .i64 (V.copies 5)]

/-- a visit at work lies in block b -/
def VisitAt (w : World) (b : Nat) (V : Visit) : Prop := ∃ w0 p0 c0 p1 c1 p2 c2 p3 c3, Ext w0 w ∧ w0.heap.size ≤ b ∧
  w.heap[b]? = some (.cells (visitCells p0 c0 p1 c1 p2 c2 p3 c3 V) 122 (0, 0)) ∧
  ListsAt w0 p0 V.S.boxes ∧ IntsAt w0 p1 V.S.stock ∧ ListsAt w0 p2 V.S.earn ∧ PairsAt w0 p3 V.S.keeps

theorem VisitAt.ext {w w' : World} {b : Nat} {V : Visit} (h : VisitAt w b V) (hE : Ext w w') : VisitAt w' b V := by
  obtain ⟨w0, p0, c0, p1, c1, p2, c2, p3, c3, h1, h2, h3, h4⟩ := h
  have hb : b < w.heap.size := (Array.getElem?_eq_some_iff.1 h3).1
  exact ⟨w0, p0, c0, p1, c1, p2, c2, p3, c3, h1.trans hE, h2, (Below.block hE b hb).trans h3, h4⟩

theorem cell_of_heap {w : World} {b : Nat} {cs : Array Value} {t : TypeId} {f : Nat × Nat} (h : w.heap[b]? = some (.cells cs t f)) (o : Nat) : w.cell? ⟨b, o, none⟩ = cs[o]? := by
  simp [World.cell?, h]

/-- what a reader of a visit wants to know of its cells -/
theorem VisitAt.facts {w : World} {b : Nat} {V : Visit} (h : VisitAt w b V) : ∃ p0 c0 p1 c1 p2 c2 p3 c3,
    ListsAt w p0 V.S.boxes ∧ IntsAt w p1 V.S.stock ∧ ListsAt w p2 V.S.earn ∧ PairsAt w p3 V.S.keeps ∧
    w.cell? ⟨b, 0, none⟩ = some (.slice p0 V.S.boxes.length c0) ∧ w.cell? ⟨b, 1, none⟩ = some (.slice p1 V.S.stock.length c1) ∧
    w.cell? ⟨b, 2, none⟩ = some (.slice p2 V.S.earn.length c2) ∧ w.cell? ⟨b, 3, none⟩ = some (.slice p3 V.S.keeps.length c3) ∧
    w.cell? ⟨b, 4, none⟩ = some (.int .i64 V.S.changes) ∧
    (∀ k, k < 3 → w.cell? ⟨b, 5 + k, none⟩ = some (.int .u64 (V.now k))) ∧ (∀ k, k < 3 → w.cell? ⟨b, 8 + k, none⟩ = some (.int .u64 (V.keeps k))) ∧
    (∀ k, k < 6 → w.cell? ⟨b, 11 + k, none⟩ = some (.int .i64 (V.copies k))) := by
  obtain ⟨w0, p0, c0, p1, c1, p2, c2, p3, c3, h1, h2, h3, h4, h5, h6, h7⟩ := h
  refine ⟨p0, c0, p1, c1, p2, c2, p3, c3, h4.ext h1, h5.ext h1, h6.ext h1, h7.ext h1, ?_, ?_, ?_, ?_, ?_, ?_, ?_, ?_⟩
  all_goals (try (rw [cell_of_heap h3]; rfl))
  all_goals (intro k hk; rw [cell_of_heap h3])
  · obtain rfl | rfl | rfl : k = 0 ∨ k = 1 ∨ k = 2 := by omega
    all_goals rfl
  · obtain rfl | rfl | rfl : k = 0 ∨ k = 1 ∨ k = 2 := by omega
    all_goals rfl
  · obtain rfl | rfl | rfl | rfl | rfl | rfl : k = 0 ∨ k = 1 ∨ k = 2 ∨ k = 3 ∨ k = 4 ∨ k = 5 := by omega
    all_goals rfl

theorem heap_new (w : World) (o : Obj) : (w.alloc o).heap[w.heap.size]? = some o := by
  show (w.heap.push o)[w.heap.size]? = some o
  simp

/-- strictly ascending lists of titles of a valid visit, and all else that makes it valid -/
structure Valid (S : Swap) : Prop where
  boxes : S.boxes.length ≤ 3
  stock : S.stock.length ≤ 6
  earn : S.earn.length = S.stock.length
  keeps : S.keeps.length ≤ 4
  ch : 0 ≤ S.changes ∧ S.changes ≤ 3
  box : ∀ i (h : i < S.boxes.length), S.boxes[i].length ≤ 3 ∧ Rises S.boxes[i] 0 ((S.stock.length : Int) - 1)
  st : ∀ i (h : i < S.stock.length), 0 ≤ S.stock[i] ∧ S.stock[i] ≤ 9
  row : ∀ i (h : i < S.earn.length), S.earn[i].length = S.boxes.length
  cell : ∀ i (h : i < S.earn.length) k (hk : k < S.earn[i].length), 0 ≤ S.earn[i][k] ∧ S.earn[i][k] ≤ 999
  keep : ∀ i (h : i < S.keeps.length), 0 ≤ S.keeps[i].1 ∧ S.keeps[i].1 ≤ (S.boxes.length : Int) - 1 ∧ S.keeps[i].2 ∈ S.boxes.getD S.keeps[i].1.toNat []

/-- a visit that is valid but for one copy or change too many -/
structure ValidE (S : Swap) : Prop where
  boxes : S.boxes.length ≤ 3
  stock : S.stock.length ≤ 6
  earn : S.earn.length = S.stock.length
  keeps : S.keeps.length ≤ 4
  ch : 0 ≤ S.changes ∧ S.changes ≤ 4
  box : ∀ i (h : i < S.boxes.length), S.boxes[i].length ≤ 3 ∧ Rises S.boxes[i] 0 ((S.stock.length : Int) - 1)
  st : ∀ i (h : i < S.stock.length), 0 ≤ S.stock[i] ∧ S.stock[i] ≤ 10
  row : ∀ i (h : i < S.earn.length), S.earn[i].length = S.boxes.length
  cell : ∀ i (h : i < S.earn.length) k (hk : k < S.earn[i].length), 0 ≤ S.earn[i][k] ∧ S.earn[i][k] ≤ 999
  keep : ∀ i (h : i < S.keeps.length), 0 ≤ S.keeps[i].1 ∧ S.keeps[i].1 ≤ (S.boxes.length : Int) - 1 ∧ S.keeps[i].2 ∈ S.boxes.getD S.keeps[i].1.toNat []
theorem Valid.e {S : Swap} (h : Valid S) : ValidE S := ⟨h.boxes, h.stock, h.earn, h.keeps, ⟨h.ch.1, by have := h.ch.2; omega⟩, h.box, fun i hi => ⟨(h.st i hi).1, by have := (h.st i hi).2; omega⟩, h.row, h.cell, h.keep⟩

/-- a visit whose numbers are as they should be -/
structure VOK (V : Visit) : Prop where
  boxes : V.S.boxes.length ≤ 3
  stock : V.S.stock.length ≤ 6
  earn : V.S.earn.length = V.S.stock.length
  row : ∀ i (h : i < V.S.earn.length), V.S.earn[i].length = V.S.boxes.length
  cell : ∀ i (h : i < V.S.earn.length) k (hk : k < V.S.earn[i].length), 0 ≤ V.S.earn[i][k] ∧ V.S.earn[i][k] ≤ 999
  ch : 0 ≤ V.S.changes ∧ V.S.changes ≤ 9
  now : ∀ k, k < 3 → V.now k < 64
  keeps : ∀ k, k < 3 → V.keeps k < 64
  copies : ∀ k, k < 6 → 0 ≤ V.copies k ∧ V.copies k ≤ 99
  titles : ∀ i (h : i < V.S.boxes.length), V.S.boxes[i].length ≤ 3

/-- what the first titles of a set earn in a box -/
def earnTo (E : List (List Int)) (m k : Nat) : Nat → Int
  | 0 => 0
  | n + 1 => earnTo E m k n + (if m.testBit n then (E.getD n []).getD k 0 else 0)
theorem earnTo_bd {V : Visit} (hV : VOK V) (m k : Nat) : ∀ n, n ≤ V.S.earn.length → 0 ≤ earnTo V.S.earn m k n ∧ earnTo V.S.earn m k n ≤ 999 * n
  | 0, _ => by simp [earnTo]
  | n + 1, h => by
    obtain ⟨h1, h2⟩ := earnTo_bd hV m k n (by omega)
    have hn : n < V.S.earn.length := by omega
    have he : V.S.earn.getD n [] = V.S.earn[n] := by simp [List.getD, hn]
    have hc : 0 ≤ (V.S.earn[n]).getD k 0 ∧ (V.S.earn[n]).getD k 0 ≤ 999 := by
      by_cases hk : k < V.S.earn[n].length
      · have := hV.cell n hn k hk
        simp only [List.getD, List.getElem?_eq_getElem hk, Option.getD_some]
        exact this
      · simp [List.getD, List.getElem?_eq_none (by omega : V.S.earn[n].length ≤ k)]
    unfold earnTo
    rw [he]
    split <;> omega

/-- a plan that is boxed -/
theorem pl3_cell {w : World} {f : Nat → Nat} {t : TypeId} (k : Nat) (hk : k < 3) :
    (w.alloc (.cells #[.int .u64 (f 0), .int .u64 (f 1), .int .u64 (f 2)] t)).cell? ⟨w.heap.size, k, none⟩ = some (.int .u64 (f k)) := by
  rw [cell_of_heap (heap_new _ _)]
  obtain rfl | rfl | rfl : k = 0 ∨ k = 1 ∨ k = 2 := by omega
  all_goals rfl
end Go.Proofs.YtppncdbhebgcaaaGreatDoor.Sw7
namespace Go.Proofs.YtppncdbhebgcaaaGreatDoor.Sw7
open Go.RowKit

end Go.Proofs.YtppncdbhebgcaaaGreatDoor.Sw7
namespace Go.Proofs.YtppncdbhebgcaaaGreatDoor.Sw7
open Go.RowKit

theorem has_spell (s t : Nat) (hs2 : s < 18446744073709551616) : (bits BinOp.and IntKind.u64 ((s : Int) / 2 ^ t) 1 == 1) = s.testBit t := by
  have h1 : ((s : Int) / 2 ^ t) = ((s / 2 ^ t : Nat) : Int) := by simp
  have h2 : s / 2 ^ t < 18446744073709551616 := Nat.lt_of_le_of_lt (Nat.div_le_self _ _) hs2
  rw [h1, show (1 : Int) = ((1 : Nat) : Int) from rfl, bits_and_u64_nat _ _ h2 (by decide), Nat.testBit_eq_decide_div_mod_eq, Nat.and_one_is_mod]
  generalize s / 2 ^ t % 2 = x
  by_cases hx : x = 1
  · simp [hx]
  · simp [hx]; omega

set_option maxHeartbeats 400000 in
theorem has07 (s : Nat) (t : Nat) (w : World) (hs1 : s < 64) (ht2 : t < 64) :
    Calls Tryz.prog 76 #[.int .u64 s, .int .i64 t] w (RetQ (.bool (s.testBit t)) w) := by
  have hs2 : s < 18446744073709551616 := by omega
  go_enter Tryz.func76, Tryz.ntmps76
  go_wp2
  go_ret
  exact RetQ.fin (by repeat (first | exact Qt.refl _ | assumption | refine Qt.drewN ?_ _ | refine Qt.drew ?_)) (congrArg Value.bool (has_spell s t hs2))

/-- how many bits a small set has -/
def popc (s : Nat) : Nat := ((List.range 6).filter s.testBit).length

set_option maxHeartbeats 1000000 in
set_option maxRecDepth 10000 in
theorem OnesCount64_07 (s : Nat) (w : World) (hs2 : s < 64) :
    Calls Tryz.prog 155 #[.int .u64 s] w (RetQ (.int .i64 (popc s)) w) := by
  go_enter Tryz.func155, Tryz.ntmps155
  go_wp2
  go_ret
  refine RetQ.fin (by repeat (first | exact Qt.refl _ | assumption | refine Qt.drewN ?_ _ | refine Qt.drew ?_)) (congrArg (Value.int .i64) ?_)
  revert s
  decide +kernel

set_option maxHeartbeats 400000 in
theorem OnesCount_07 (s : Nat) (w : World) (hs2 : s < 64) :
    Calls Tryz.prog 129 #[.int .u64 s] w (RetQ (.int .i64 (popc s)) w) := by
  go_enter Tryz.func129, Tryz.ntmps129
  go_wp2_with (go_at_call 155; refine (OnesCount64_07 s _ hs2).mono ?_; rintro e w' ⟨rfl, m, rfl⟩)
  go_ret
  exact RetQ.fin (by repeat (first | exact Qt.refl _ | assumption | refine Qt.drewN ?_ _ | refine Qt.drew ?_)) rfl

set_option maxHeartbeats 400000 in
theorem many07 (s : Nat) (w : World) (hs2 : s < 64) :
    Calls Tryz.prog 92 #[.int .u64 s] w (RetQ (.int .i64 (popc s)) w) := by
  go_enter Tryz.func92, Tryz.ntmps92
  go_wp2_with (go_at_call 129; refine (OnesCount_07 s _ hs2).mono ?_; rintro e w' ⟨rfl, m, rfl⟩)
  go_ret
  exact RetQ.fin (by repeat (first | exact Qt.refl _ | assumption | refine Qt.drewN ?_ _ | refine Qt.drew ?_)) rfl
end Go.Proofs.YtppncdbhebgcaaaGreatDoor.Sw7
namespace Go.Proofs.YtppncdbhebgcaaaGreatDoor.Sw7
open Go.RowKit

/-- in how many of the first boxes a title is -/
def cntB (f : Nat → Nat) (t : Nat) : Nat → Nat
  | 0 => 0
  | k + 1 => cntB f t k + (if (f k).testBit t then 1 else 0)
theorem cntB_le (f : Nat → Nat) (t : Nat) : ∀ k, cntB f t k ≤ k
  | 0 => Nat.le_refl _
  | k + 1 => by have := cntB_le f t k; unfold cntB; split <;> omega

theorem idx3_0 (a b c : Int) (w : World) : (Instr.index 80 (.agg #[.int .u64 a, .int .u64 b, .int .u64 c]) (.int .i64 0)).run Tryz.prog w = .ok (.int .u64 a) w := by kernel_rfl
theorem idx3_1 (a b c : Int) (w : World) : (Instr.index 80 (.agg #[.int .u64 a, .int .u64 b, .int .u64 c]) (.int .i64 1)).run Tryz.prog w = .ok (.int .u64 b) w := by kernel_rfl
theorem idx3_2 (a b c : Int) (w : World) : (Instr.index 80 (.agg #[.int .u64 a, .int .u64 b, .int .u64 c]) (.int .i64 2)).run Tryz.prog w = .ok (.int .u64 c) w := by kernel_rfl

set_option maxHeartbeats 400000 in
theorem boxes07 (f : Nat → Nat) (t : Nat) (w : World) (hf : ∀ k, k < 3 → f k < 64) (ht2 : t < 64) :
    Calls Tryz.prog 73 #[pl3 f, .int .i64 t] w (RetE (.int .i64 (cntB f t 3)) w) := by
  unfold pl3
  go_enter Tryz.func73, Tryz.ntmps73
  go_wp2
  obtain ⟨W, hW⟩ : ∃ W, W = w.alloc (.cells #[.int .u64 (f 0), .int .u64 (f 1), .int .u64 (f 2)] 80) := ⟨_, rfl⟩
  have hE : Ext w W := by rw [hW]; exact Ext.alloc (Ext.refl w) _
  rw [← hW]
  clear hW
  go_loopw [5, 9] (fun n i wr => ∃ k : Nat, k ≤ 3 ∧ i = .int .i64 k ∧ n = .int .i64 (cntB f t k) ∧ Qt W wr) (fun _ i _ => 3 - (intOf i).toNat)
  case atStart => exact ⟨0, by omega, rfl, rfl, Qt.refl _⟩
  case round =>
    obtain ⟨k, hk, rfl, rfl, hQ⟩ := hrel
    by_cases hlt : k < 3
    · have hfk := hf k hlt
      have hs : Hid (cntB f t (k + 1) = cntB f t k + (if (f k).testBit t then 1 else 0)) := rfl
      have hc := cntB_le f t k
      have hcn : (3 : Nat) ≤ 3 := Nat.le_refl _
      clear hf hE
      generalize hn : cntB f t k = n at *
      have HN := Lib.hid hn
      clear hn
      obtain rfl | rfl | rfl : k = 0 ∨ k = 1 ∨ k = 2 := by omega
      all_goals
        have i0 := idx3_0 (f 0) (f 1) (f 2)
        have i1 := idx3_1 (f 0) (f 1) (f 2)
        have i2 := idx3_2 (f 0) (f 1) (f 2)
        go_wp2_with (go_at_call 76; refine (has07 _ t _ hfk ht2).mono ?_; rintro e w' ⟨rfl, m, rfl⟩)
        all_goals
          go_roundw
          case rel => first
            | exact ⟨1, by decide, rfl, by rw [show cntB f t 1 = _ from hs.out]; simp [*], (by repeat (first | exact Qt.refl _ | assumption | refine Qt.drewN ?_ _ | refine Qt.drew ?_))⟩
            | exact ⟨2, by decide, rfl, by rw [show cntB f t 2 = _ from hs.out]; simp [*], (by repeat (first | exact Qt.refl _ | assumption | refine Qt.drewN ?_ _ | refine Qt.drew ?_))⟩
            | exact ⟨3, by decide, rfl, by rw [show cntB f t 3 = _ from hs.out]; simp [*], (by repeat (first | exact Qt.refl _ | assumption | refine Qt.drewN ?_ _ | refine Qt.drew ?_))⟩
          case measure => simp [intOf]
    · obtain rfl : k = 3 := by omega
      go_wp2
      go_ret
      exact RetE.fin (hE.trans hQ.ext) rfl

/-- what of a is not in b -/
def dif (a b : Nat) : Nat := a - (a &&& b)
theorem dif_spell : ∀ a, a < 64 → ∀ b, b < 64 → a &&& (18446744073709551615 - b) = dif a b := by decide +kernel
theorem dif_lt : ∀ a, a < 64 → ∀ b, b < 64 → dif a b < 64 := by decide +kernel
theorem bits_dif (a b : Nat) (ha : a < 64) (hb : b < 64) : bits .andNot .u64 (a : Int) (b : Int) = ((dif a b : Nat) : Int) := by
  rw [u64_andNot_nat a b (by omega) (by omega), dif_spell a ha b hb]

set_option maxHeartbeats 400000 in
theorem changes07 (f : Nat → Nat) (k b : Nat) (V : Visit) (w : World) (hf : f k < 64) (hn : V.now k < 64) (hk : k < 3) (hV : VisitAt w b V) :
    Calls Tryz.prog 130 #[.pointer (some ⟨b, 0, none⟩), pl3 f, .int .i64 k] w (RetE (.int .i64 (popc (dif (f k) (V.now k)))) w) := by
  unfold pl3
  go_enter Tryz.func130, Tryz.ntmps130
  go_wp2
  have hp := pl3_cell (w := w) (f := f) (t := 80) k hk
  have hs := heap_new w (.cells #[.int .u64 (f 0), .int .u64 (f 1), .int .u64 (f 2)] 80)
  obtain ⟨W, hW⟩ : ∃ W, W = w.alloc (.cells #[.int .u64 (f 0), .int .u64 (f 1), .int .u64 (f 2)] 80) := ⟨_, rfl⟩
  have hE : Ext w W := by rw [hW]; exact Ext.alloc (Ext.refl w) _
  rw [← hW] at hp ⊢
  obtain ⟨p0, c0, p1, c1, p2, c2, p3, c3, -, -, -, -, -, -, -, -, -, hnow, -, -⟩ := (hV.ext hE).facts
  have h5 := hnow k hk
  clear hW hnow hs
  have hd := bits_dif (f k) (V.now k) hf hn
  have hlt := dif_lt (f k) hf (V.now k) hn
  go_quiet ((go_at_call 92; exact RetQ.quiet (many07 _ _ hlt)))
  go_wp2
  go_ret
  exact RetE.fin (hE.trans (Qt.ext (by repeat (first | exact Qt.refl _ | assumption | refine Qt.drewN ?_ _ | refine Qt.drew ?_)))) rfl

theorem earnTo_succ (E : List (List Int)) (m k n : Nat) (hn : n < E.length) (hk : k < E[n].length) : earnTo E m k (n + 1) = earnTo E m k n + (if m.testBit n then E[n][k] else 0) := by
  rw [earnTo]
  simp [List.getD, hn, hk]

set_option maxHeartbeats 800000 in
theorem earns07 (f : Nat → Nat) (k b : Nat) (V : Visit) (w : World) (hV : VisitAt w b V) (hO : VOK V) (hk : k < V.S.boxes.length) (hf : f k < 64) :
    Calls Tryz.prog 42 #[.pointer (some ⟨b, 0, none⟩), pl3 f, .int .i64 k] w (RetE (.int .i64 (earnTo V.S.earn (f k) k V.S.earn.length)) w) := by
  have hk3 : k < 3 := by have := hO.boxes; omega
  have hl6 : V.S.earn.length ≤ 6 := by have := hO.earn; have := hO.stock; omega
  unfold pl3
  go_enter Tryz.func42, Tryz.ntmps42
  go_upto_region 2 with (fail)
  have hp := pl3_cell (w := w) (f := f) (t := 80) k hk3
  obtain ⟨W, hW⟩ : ∃ W, W = w.alloc (.cells #[.int .u64 (f 0), .int .u64 (f 1), .int .u64 (f 2)] 80) := ⟨_, rfl⟩
  have hE : Ext w W := by rw [hW]; exact Ext.alloc (Ext.refl w) _
  rw [← hW] at hp ⊢
  obtain ⟨p0, c0, p1, c1, p2, c2, p3, c3, -, -, hearn, -, -, -, h2, -⟩ := (hV.ext hE).facts
  clear hW
  go_wp2
  go_loopw [7, 16] (fun n i wr => ∃ t : Nat, t ≤ V.S.earn.length ∧ i = .int .i64 t ∧ n = .int .i64 (earnTo V.S.earn (f k) k t) ∧ Qt W wr) (fun _ i _ => V.S.earn.length - (intOf i).toNat)
  case atStart => exact ⟨0, by omega, rfl, rfl, Qt.refl _⟩
  case round =>
    obtain ⟨t, ht, rfl, rfl, hQ⟩ := hrel
    obtain ⟨hb1, hb2⟩ := earnTo_bd hO (f k) k t ht
    replace hp := hQ.ext.cell hp
    replace hearn := hearn.ext hQ.ext
    by_cases hlt : t < V.S.earn.length
    · have hkl : k < V.S.earn[t].length := by rw [hO.row t hlt]; exact hk
      obtain ⟨b1, o1, q, c, rfl, hc1, hq⟩ := hearn.at t hlt
      obtain ⟨b2, o2, rfl, hc2⟩ := hq.at k hkl
      have hcell := hO.cell t hlt k hkl
      have HS := Lib.hid (earnTo_succ V.S.earn (f k) k t hlt hkl)
      generalize hn : earnTo V.S.earn (f k) k t = n at *
      have HN := Lib.hid hn
      obtain ⟨hcl, hch⟩ := hcell
      clear hn
      by_cases hb : (f k).testBit t = true
      all_goals
        go_wp2_with (go_at_call 76; refine (has07 _ t _ hf (by omega)).mono ?_; rintro e w' ⟨rfl, m, rfl⟩)
        go_roundw
        case rel => exact ⟨t + 1, by omega, by go_num, by rw [HS.out]; simp [*], (by repeat (first | exact Qt.refl _ | assumption | refine Qt.drewN ?_ _ | refine Qt.drew ?_))⟩
        case measure => simp [intOf]; omega
    · obtain rfl : t = V.S.earn.length := by omega
      go_wp2
      go_ret
      exact RetE.fin (hE.trans hQ.ext) rfl
end Go.Proofs.YtppncdbhebgcaaaGreatDoor.Sw7
namespace Go.Proofs.YtppncdbhebgcaaaGreatDoor.Sw7
open Go.RowKit

def sumTo (V : Visit) (f : Nat → Nat) : Nat → Int
  | 0 => 0
  | k + 1 => sumTo V f k + earnTo V.S.earn (f k) k V.S.earn.length
theorem popc_le (s : Nat) : popc s ≤ 6 := by
  unfold popc
  exact Nat.le_trans (List.length_filter_le _ _) (by simp)
theorem earnTo_all {V : Visit} (hO : VOK V) (m k : Nat) : 0 ≤ earnTo V.S.earn m k V.S.earn.length ∧ earnTo V.S.earn m k V.S.earn.length ≤ 5994 := by
  have h := earnTo_bd hO m k V.S.earn.length (Nat.le_refl _)
  have := hO.earn
  have := hO.stock
  omega
theorem sumTo_bd {V : Visit} (hO : VOK V) (f : Nat → Nat) : ∀ k, 0 ≤ sumTo V f k ∧ sumTo V f k ≤ 5994 * k
  | 0 => by simp [sumTo]
  | k + 1 => by
    have h := sumTo_bd hO f k
    have := earnTo_all hO (f k) k
    unfold sumTo
    omega

set_option maxHeartbeats 800000 in
theorem sum07 (f : Nat → Nat) (b : Nat) (V : Visit) (w : World) (hV : VisitAt w b V) (hO : VOK V) (hf : ∀ k, k < 3 → f k < 64) :
    Calls Tryz.prog 74 #[.pointer (some ⟨b, 0, none⟩), pl3 f] w (RetE (.int .i64 (sumTo V f V.S.boxes.length)) w) := by
  have hb3 := hO.boxes
  have hbs : b < w.heap.size := by obtain ⟨_, _, _, _, _, _, _, _, _, _, _, h, _⟩ := hV; exact (Array.getElem?_eq_some_iff.1 h).1
  unfold pl3
  go_enter Tryz.func74, Tryz.ntmps74
  go_upto_region 2 with (fail)
  have hp := heap_new w (.cells #[.int .u64 (f 0), .int .u64 (f 1), .int .u64 (f 2)] 80)
  obtain ⟨W, hW⟩ : ∃ W, W = w.alloc (.cells #[.int .u64 (f 0), .int .u64 (f 1), .int .u64 (f 2)] 80) := ⟨_, rfl⟩
  have hE : Ext w W := by rw [hW]; exact Ext.alloc (Ext.refl w) _
  rw [← hW] at hp ⊢
  have hV1 := hV.ext hE
  obtain ⟨p0, c0, p1, c1, p2, c2, p3, c3, -, -, -, -, h0, -⟩ := hV1.facts
  have hq0 := cell_of_heap hp 0
  have hq1 := cell_of_heap hp 1
  have hq2 := cell_of_heap hp 2
  simp at hq0 hq1 hq2
  clear hW hp hV
  go_wp2
  go_loopw [5, 13] (fun n i wr => ∃ t : Nat, t ≤ V.S.boxes.length ∧ i = .int .i64 t ∧ n = .int .i64 (sumTo V f t) ∧ Ext W wr) (fun _ i _ => V.S.boxes.length - (intOf i).toNat)
  case atStart => exact ⟨0, by omega, rfl, rfl, Ext.refl _⟩
  case round =>
    obtain ⟨t, ht, rfl, rfl, hQ⟩ := hrel
    obtain ⟨hb1, hb2⟩ := sumTo_bd hO f t
    replace hq0 := hQ.cell hq0
    replace hq1 := hQ.cell hq1
    replace hq2 := hQ.cell hq2
    have hVr := hV1.ext hQ
    by_cases hlt : t < V.S.boxes.length
    · have hft := hf t (by omega)
      have HS : Hid (sumTo V f (t + 1) = sumTo V f t + earnTo V.S.earn (f t) t V.S.earn.length) := rfl
      obtain ⟨he1, he2⟩ := earnTo_all hO (f t) t
      have HC := Lib.hid (fun w1 (hE : Ext wr w1) => earns07 f t b V w1 (hVr.ext hE) hO hlt hft)
      generalize hn : sumTo V f t = n at *
      generalize hm : earnTo V.S.earn (f t) t V.S.earn.length = m at *
      clear hn hm
      clear hf hV1
      go_wp2_with (go_at_call 42; refine (HC.out _ (Ext.refl _)).mono ?_; rintro e w' ⟨rfl, hE'⟩)
      go_roundw
      case rel => exact ⟨t + 1, by omega, by go_num, by rw [HS.out], hQ.trans hE'⟩
      case measure => simp [intOf]; omega
    · obtain rfl : t = V.S.boxes.length := by omega
      go_wp2
      go_ret
      exact RetE.fin (hE.trans hQ) rfl

end Go.Proofs.YtppncdbhebgcaaaGreatDoor.Sw7
namespace Go.Proofs.YtppncdbhebgcaaaGreatDoor.Sw7
open Go.RowKit

/-- a plan fits, as far as its first boxes say -/
def FitBox (V : Visit) (f : Nat → Nat) (k : Nat) : Prop := (popc (dif (f k) (V.now k)) : Int) ≤ V.S.changes ∧ dif (V.keeps k) (f k) = 0
def FitsTo (V : Visit) (f : Nat → Nat) (n : Nat) : Prop := (∀ k, k < n → FitBox V f k) ∧ ∀ t, t < 6 → (cntB f t 3 : Int) ≤ V.copies t

theorem idx6_0 (a b c d e f : Int) (w : World) : (Instr.index 120 (.agg #[.int .i64 a, .int .i64 b, .int .i64 c, .int .i64 d, .int .i64 e, .int .i64 f]) (.int .i64 0)).run Tryz.prog w = .ok (.int .i64 a) w := by kernel_rfl
theorem idx6_1 (a b c d e f : Int) (w : World) : (Instr.index 120 (.agg #[.int .i64 a, .int .i64 b, .int .i64 c, .int .i64 d, .int .i64 e, .int .i64 f]) (.int .i64 1)).run Tryz.prog w = .ok (.int .i64 b) w := by kernel_rfl
theorem idx6_2 (a b c d e f : Int) (w : World) : (Instr.index 120 (.agg #[.int .i64 a, .int .i64 b, .int .i64 c, .int .i64 d, .int .i64 e, .int .i64 f]) (.int .i64 2)).run Tryz.prog w = .ok (.int .i64 c) w := by kernel_rfl
theorem idx6_3 (a b c d e f : Int) (w : World) : (Instr.index 120 (.agg #[.int .i64 a, .int .i64 b, .int .i64 c, .int .i64 d, .int .i64 e, .int .i64 f]) (.int .i64 3)).run Tryz.prog w = .ok (.int .i64 d) w := by kernel_rfl
theorem idx6_4 (a b c d e f : Int) (w : World) : (Instr.index 120 (.agg #[.int .i64 a, .int .i64 b, .int .i64 c, .int .i64 d, .int .i64 e, .int .i64 f]) (.int .i64 4)).run Tryz.prog w = .ok (.int .i64 e) w := by kernel_rfl
theorem idx6_5 (a b c d e f : Int) (w : World) : (Instr.index 120 (.agg #[.int .i64 a, .int .i64 b, .int .i64 c, .int .i64 d, .int .i64 e, .int .i64 f]) (.int .i64 5)).run Tryz.prog w = .ok (.int .i64 f) w := by kernel_rfl
theorem idx6 (g : Nat → Int) (k : Nat) (hk : k < 6) : ∀ (w : World), (Instr.index 120 (.agg #[.int .i64 (g 0), .int .i64 (g 1), .int .i64 (g 2), .int .i64 (g 3), .int .i64 (g 4), .int .i64 (g 5)]) (.int .i64 k)).run Tryz.prog w = .ok (.int .i64 (g k)) w := by
  obtain rfl | rfl | rfl | rfl | rfl | rfl : k = 0 ∨ k = 1 ∨ k = 2 ∨ k = 3 ∨ k = 4 ∨ k = 5 := by omega
  · exact idx6_0 _ _ _ _ _ _
  · exact idx6_1 _ _ _ _ _ _
  · exact idx6_2 _ _ _ _ _ _
  · exact idx6_3 _ _ _ _ _ _
  · exact idx6_4 _ _ _ _ _ _
  · exact idx6_5 _ _ _ _ _ _

set_option maxHeartbeats 1600000 in
theorem fits07 (f : Nat → Nat) (n b : Nat) (V : Visit) (w : World) (hV : VisitAt w b V) (hO : VOK V) (hf : ∀ k, k < 3 → f k < 64) (hn : n ≤ 3) :
    Calls Tryz.prog 93 #[.pointer (some ⟨b, 0, none⟩), pl3 f, .int .i64 n] w (RetE (.bool (bP (FitsTo V f n))) w) := by
  have hb3 := hO.boxes
  unfold pl3
  go_enter Tryz.func93, Tryz.ntmps93
  go_upto_region 1 with (fail)
  have hp := heap_new w (.cells #[.int .u64 (f 0), .int .u64 (f 1), .int .u64 (f 2)] 80)
  have hpk := pl3_cell (w := w) (f := f) (t := 80)
  obtain ⟨W, hW⟩ : ∃ W, W = w.alloc (.cells #[.int .u64 (f 0), .int .u64 (f 1), .int .u64 (f 2)] 80) := ⟨_, rfl⟩
  have hE : Ext w W := by rw [hW]; exact Ext.alloc (Ext.refl w) _
  rw [← hW] at hp hpk ⊢
  have hV1 := hV.ext hE
  obtain ⟨p0, c0, p1, c1, p2, c2, p3, c3, -, -, -, -, -, -, -, -, h4, -, hkeep, hcop⟩ := hV1.facts
  have hq0 := ExtW.cell (v := .int .u64 (f 0)) (cell_of_heap hp 0)
  have hq1 := ExtW.cell (v := .int .u64 (f 1)) (cell_of_heap hp 1)
  have hq2 := ExtW.cell (v := .int .u64 (f 2)) (cell_of_heap hp 2)
  have hc4 := ExtW.cell h4
  have g0 := ExtW.cell (hcop 0 (by decide))
  have g1 := ExtW.cell (hcop 1 (by decide))
  have g2 := ExtW.cell (hcop 2 (by decide))
  have g3 := ExtW.cell (hcop 3 (by decide))
  have g4 := ExtW.cell (hcop 4 (by decide))
  have g5 := ExtW.cell (hcop 5 (by decide))
  simp only [Nat.add_zero, Nat.reduceAdd] at g0 g1 g2 g3 g4 g5
  obtain ⟨x0, hx0⟩ := ExtW.of (Ext.refl W)
  have hpk' := Lib.hid hpk
  have hkeep' := Lib.hid hkeep
  have hf' := Lib.hid hf
  have hV' := Lib.hid hV1
  clear hW hp hV hpk hkeep hcop hf hV1 h4
  conv => arg 5; rw [hx0]
  go_wp2
  go_loopw [11] (fun i wr => ∃ k : Nat, k ≤ n ∧ i = .int .i64 k ∧ (∀ j, j < k → FitBox V f j) ∧ ∃ x : ExtW W, wr = x.w) (fun i _ => n - (intOf i).toNat)
  case atStart => exact ⟨0, by omega, rfl, by intro j hj; omega, x0, rfl⟩
  case round =>
    obtain ⟨k, hk, rfl, hr, x, rfl⟩ := hrel
    have HR := Lib.hid hr
    clear hr hx0 x0
    by_cases hlt : k < n
    · have hk3 : k < 3 := by omega
      have hpx := ExtW.cell (hpk'.out k hk3)
      have hkx := ExtW.cell (hkeep'.out k hk3)
      have hd := bits_dif (V.keeps k) (f k) (hO.keeps k hk3) (hf'.out k hk3)
      have HC := Lib.hid (fun (y : ExtW W) => ExtW.call (changes07 f k b V y.w (hf'.out k hk3) (hO.now k hk3) hk3 (hV'.out.ext y.h)))
      by_cases h1 : V.S.changes < (popc (dif (f k) (V.now k)) : Int)
      · have H1 := Lib.hid h1
        have h1' : decide (V.S.changes < (popc (dif (f k) (V.now k)) : Int)) = true := by simpa using h1
        clear h1
        go_wp2
        refine wp_region_extW (by kernel_rfl) (by kernel_rfl) ?_
        repeat (go_big_quiet_step ((go_at_call 130; exact HC.out _)))
        refine wpQuiet_nil ?_
        rintro _ ⟨x1, rfl⟩
        go_wp2
        go_ret
        refine RetE.ff (hE.trans x1.h) ?_
        intro hF
        have := (hF.1 k hlt).1
        have := H1.out
        omega
      · have H1 := Lib.hid h1
        have h1' : decide (V.S.changes < (popc (dif (f k) (V.now k)) : Int)) = false := by simpa using h1
        clear h1
        by_cases h2 : dif (V.keeps k) (f k) = 0
        · have h2' : (((dif (V.keeps k) (f k) : Nat) : Int) != 0) = false := by simpa using h2
          have H2 := Lib.hid h2
          clear h2
          go_wp2
          refine wp_region_extW (by kernel_rfl) (by kernel_rfl) ?_
          repeat (go_big_quiet_step ((go_at_call 130; exact HC.out _)))
          refine wpQuiet_nil ?_
          rintro _ ⟨x1, rfl⟩
          go_wp2
          go_roundw
          case rel => exact ⟨k + 1, by omega, by go_num, by
            intro j hj
            by_cases e : j < k
            · exact HR.out j e
            · obtain rfl : j = k := by omega
              exact ⟨by have := H1.out; omega, H2.out⟩, x1, rfl⟩
          case measure => simp [intOf]; omega
        · have h2' : (((dif (V.keeps k) (f k) : Nat) : Int) != 0) = true := by simpa using h2
          have H2 := Lib.hid h2
          clear h2
          go_wp2
          refine wp_region_extW (by kernel_rfl) (by kernel_rfl) ?_
          repeat (go_big_quiet_step ((go_at_call 130; exact HC.out _)))
          refine wpQuiet_nil ?_
          rintro _ ⟨x1, rfl⟩
          go_wp2
          go_ret
          refine RetE.ff (hE.trans x1.h) ?_
          intro hF
          exact H2.out (hF.1 k hlt).2
    · obtain rfl : k = n := by omega
      have HF : Hid (∀ j, j < k → FitBox V f j) := HR.out
      go_wp2
      go_loopw [42] (fun i wr => ∃ t : Nat, t ≤ 6 ∧ i = .int .i64 t ∧ (∀ j, j < t → (cntB f j 3 : Int) ≤ V.copies j) ∧ ∃ x : ExtW W, wr = x.w) (fun i _ => 6 - (intOf i).toNat)
      case atStart => exact ⟨0, by omega, rfl, by first | trivial | (intro j hj; omega), x, rfl⟩
      case round =>
        obtain ⟨t, ht, rfl, hr, y, rfl⟩ := hrel
        have HR2 := Lib.hid hr
        clear hr
        by_cases hlt6 : t < 6
        · have i0 := idx6 V.copies t hlt6
          have HC := Lib.hid (fun (y : ExtW W) => ExtW.call (boxes07 f t y.w hf'.out (by omega)))
          by_cases h1 : V.copies t < (cntB f t 3 : Int)
          · have H1 := Lib.hid h1
            have h1' : decide (V.copies t < (cntB f t 3 : Int)) = true := by simpa using h1
            clear h1
            go_wp2_with (go_at_call 73; refine (HC.out _).mono ?_; rintro e w' ⟨rfl, y1, rfl⟩)
            go_ret
            refine RetE.ff (hE.trans y1.h) ?_
            intro hF
            have := hF.2 t hlt6
            have := H1.out
            omega
          · have H1 := Lib.hid h1
            have h1' : decide (V.copies t < (cntB f t 3 : Int)) = false := by simpa using h1
            clear h1
            go_wp2_with (go_at_call 73; refine (HC.out _).mono ?_; rintro e w' ⟨rfl, y1, rfl⟩)
            go_roundw
            case rel => exact ⟨t + 1, by omega, by go_num, by
              intro j hj
              by_cases e : j < t
              · exact HR2.out j e
              · obtain rfl : j = t := by omega
                have := H1.out; omega, y1, rfl⟩
            case measure => simp [intOf]; omega
        · obtain rfl : t = 6 := by omega
          go_wp2
          go_ret
          refine RetE.tt (hE.trans y.h) ?_
          exact ⟨HF.out, HR2.out⟩
end Go.Proofs.YtppncdbhebgcaaaGreatDoor.Sw7
namespace Go.Proofs.YtppncdbhebgcaaaGreatDoor.Sw7
open Go.RowKit
attribute [local go_sem] Oper.semAt_some

def upd (f : Nat → Nat) (k s : Nat) : Nat → Nat := fun j => if j = k then s else f j
theorem upd_upd (f : Nat → Nat) (k s t : Nat) : upd (upd f k s) k t = upd f k t := by
  funext j; unfold upd; split <;> rfl
theorem upd_lt {f : Nat → Nat} {k s : Nat} (hf : ∀ j, j < 3 → f j < 64) (hs : s < 64) : ∀ j, j < 3 → upd f k s j < 64 := by
  intro j hj; unfold upd; split
  · exact hs
  · exact hf j hj

def okP (f : Nat → Nat) : Prop := ∀ j, j < 3 → f j < 64

/-- the plans that one set of titles gives, and those of the first so many sets -/
noncomputable def plansL (V : Visit) : Nat → (Nat → Nat) → Nat → List (Nat → Nat)
  | 0, f, _ => [f]
  | d + 1, f, k => (List.range (2 ^ V.S.stock.length)).flatMap fun s =>
      if popc s = (V.S.boxes.getD k []).length ∧ bP (FitsTo V (upd f k s) (k + 1)) = true then plansL V d (upd f k s) (k + 1) else []

noncomputable def plansTo (V : Visit) (d : Nat) (f : Nat → Nat) (k n : Nat) : List (Nat → Nat) := (List.range n).flatMap fun s =>
      if popc s = (V.S.boxes.getD k []).length ∧ bP (FitsTo V (upd f k s) (k + 1)) = true then plansL V d (upd f k s) (k + 1) else []
theorem plansTo_succ (V : Visit) (d : Nat) (f : Nat → Nat) (k n : Nat) : plansTo V d f k (n + 1) = plansTo V d f k n ++
      if popc n = (V.S.boxes.getD k []).length ∧ bP (FitsTo V (upd f k n) (k + 1)) = true then plansL V d (upd f k n) (k + 1) else [] := by
  unfold plansTo
  rw [List.range_succ, List.flatMap_append]
  simp only [List.flatMap_cons, List.flatMap_nil, List.append_nil]

def box3 (g : Nat → Nat) : Obj := .cells #[.int .u64 (g 0), .int .u64 (g 1), .int .u64 (g 2)] 80
theorem box3_set {w : World} {B k : Nat} {g : Nat → Nat} (h : w.heap[B]? = some (box3 g)) (hk : k < 3) (n s : Nat) : ((w.drewN n).setCell ⟨B, k, none⟩ (.int .u64 s)).heap[B]? = some (box3 (upd g k s)) := by
  have hb : B < w.heap.size := (Array.getElem?_eq_some_iff.1 h).1
  have hh : (w.drewN n).heap[B]? = some (box3 g) := h
  simp only [World.setCell, Array.getElem?_modify, hh]
  unfold box3
  obtain rfl | rfl | rfl : k = 0 ∨ k = 1 ∨ k = 2 := by omega
  all_goals rfl
theorem box3_cell {w : World} {B : Nat} {g : Nat → Nat} (h : w.heap[B]? = some (box3 g)) (k : Nat) (hk : k < 3) : w.cell? ⟨B, k, none⟩ = some (.int .u64 (g k)) := by
  rw [cell_of_heap h]
  obtain rfl | rfl | rfl : k = 0 ∨ k = 1 ∨ k = 2 := by omega
  all_goals rfl
theorem box3_frozen {w : World} {B : Nat} {g : Nat → Nat} (h : w.heap[B]? = some (box3 g)) (k : Nat) : w.frozen? ⟨B, k, none⟩ = false := by
  simp [World.frozen?, h, box3]

set_option maxHeartbeats 400000 in
theorem plans07 (V : Visit) (hO : VOK V) (b l B0 B1 : Nat) (w0 : World) (hV0 : VisitAt w0 b V) (hB0 : w0.heap.size ≤ B0) (J : List (Nat → Nat) → World → Prop)
    (hJ : ∀ pre W W', J pre W → Below B1 W W' → J pre W') (hY : YieldAll Tryz.prog l pl3 okP B0 B1 J) :
    ∀ (d k : Nat) (f : Nat → Nat) (pre : List (Nat → Nat)) (W : World), d + k = V.S.boxes.length → (∀ j, j < 3 → f j < 64) → Ext w0 W → B1 ≤ W.heap.size → J pre W →
    Calls Tryz.prog 75 #[.pointer (some ⟨b, 0, none⟩), pl3 f, .int .i64 k, .func (.yield l) #[] #[]] W
      fun e W' => e = .returned (.bool true) ∧ J (pre ++ plansL V d f k) W' ∧ ExtI B0 B1 W W' := by
  intro d
  induction d with
  | zero =>
    intro k f pre W hk hf hE hB hj
    obtain rfl : k = V.S.boxes.length := by omega
    obtain ⟨p0, c0, p1, c1, p2, c2, p3, c3, -, -, -, -, h0, -⟩ := (hV0.ext (hE.trans (Ext.alloc (Ext.refl W) (.cells #[.int .u64 (f 0), .int .u64 (f 1), .int .u64 (f 2)] 80)))).facts
    have hp := heap_new W (.cells #[.int .u64 (f 0), .int .u64 (f 1), .int .u64 (f 2)] 80)
    have hbx : Ext W (W.alloc (.cells #[.int .u64 (f 0), .int .u64 (f 1), .int .u64 (f 2)] 80)) := Ext.alloc (Ext.refl W) _
    have hb3 := hO.boxes
    unfold pl3 at hY ⊢
    go_enter Tryz.func75, Tryz.ntmps75
    go_upto_region 1 with (fail)
    obtain ⟨W1, hW⟩ : ∃ W1, W1 = W.alloc (.cells #[.int .u64 (f 0), .int .u64 (f 1), .int .u64 (f 2)] 80) := ⟨_, rfl⟩
    rw [← hW] at hp hbx h0 ⊢
    have hq0 := cell_of_heap hp 0
    have hq1 := cell_of_heap hp 1
    have hq2 := cell_of_heap hp 2
    simp at hq0 hq1 hq2
    have hj1 := hJ _ _ W1 hj (Below.mono hbx hB)
    obtain ⟨fn, tmps, ag, bd, hy, hR⟩ := hY pre f W1 hf hj1 (Nat.le_trans hB hbx.size)
    have hR' := Lib.hid hR
    have hy' := Lib.hid hy
    clear hW hp hR hY hy
    go_upto_region 2 with (fail)
    have hy := hy'.out
    refine (wpIn_wide (n := 0)).1 ?_
    gi_wp2
    refine ⟨rfl, hR'.out.mono ?_⟩
    rintro e W2 ⟨rfl, hj2, hx⟩
    gi_wp2
    go_wp2
    go_ret
    exact ⟨rfl, hj2, (hbx.toI _ _).trans hx⟩
  | succ d ih =>
    intro k f pre W hk hf hE hB hj
    have hkl : k < V.S.boxes.length := by omega
    have hb3 := hO.boxes
    have hn6 := hO.stock
    have hp := heap_new W (.cells #[.int .u64 (f 0), .int .u64 (f 1), .int .u64 (f 2)] 80)
    have hbx : Ext W (W.alloc (.cells #[.int .u64 (f 0), .int .u64 (f 1), .int .u64 (f 2)] 80)) := Ext.alloc (Ext.refl W) _
    have hw1 : (W.alloc (.cells #[.int .u64 (f 0), .int .u64 (f 1), .int .u64 (f 2)] 80)).heap.size = W.heap.size + 1 := by simp
    unfold pl3 at hY ⊢
    go_enter Tryz.func75, Tryz.ntmps75
    go_upto_region 1 with (fail)
    obtain ⟨W1, hW⟩ : ∃ W1, W1 = W.alloc (.cells #[.int .u64 (f 0), .int .u64 (f 1), .int .u64 (f 2)] 80) := ⟨_, rfl⟩
    rw [← hW] at hp hbx hw1 ⊢
    obtain ⟨p0, c0, p1, c1, p2, c2, p3, c3, -, -, -, -, h0, h1, -⟩ := (hV0.ext (hE.trans hbx)).facts
    have hj1 := hJ _ _ W1 hj (Below.mono hbx hB)
    have hY' := Lib.hid hY
    have hne : ((k : Int) == (V.S.boxes.length : Int)) = false := by simp; omega
    have HK := Lib.hid hk
    have hw1' := Lib.hid hw1
    clear hW hY hk hw1
    obtain ⟨N, hN⟩ : ∃ N, N = 2 ^ V.S.stock.length := ⟨_, rfl⟩
    have hN64 : N ≤ 64 := by rw [hN]; exact Nat.le_trans (Nat.pow_le_pow_right (by decide) hn6) (by decide)
    have hsh : IntKind.u64.wrap (2 ^ V.S.stock.length) = (N : Int) := by
      rw [hN]
      have : ((2 ^ V.S.stock.length : Nat) : Int) = (2 : Int) ^ V.S.stock.length := by simp
      rw [← this, ← hN]
      simp [IntKind.wrap, IntKind.bits, IntKind.signed]
      omega
    have HN := Lib.hid hN
    clear hN
    go_wp2
    go_loopw [28] (fun c wr => ∃ (s : Nat) (g : Nat → Nat), s ≤ N ∧ c = .int .u64 s ∧ (∀ t, upd g k t = upd f k t) ∧ wr.heap[W.heap.size]? = some (box3 g) ∧ J (pre ++ plansTo V d f k s) wr ∧ ExtI B0 B1 W wr) (fun c _ => N - (intOf c).toNat)
    case atStart => exact ⟨0, f, by omega, rfl, by first | trivial | (intro t; rfl), hp, by first | exact hj1 | simpa [plansTo] using hj1, hbx.toI _ _⟩
    case round =>
      obtain ⟨s, g, hs, rfl, hg, hbox, hjr, hx⟩ := hrel
      have HG := Lib.hid hg
      have HB := Lib.hid hbox
      have HJ := Lib.hid hjr
      have hEr : Ext w0 wr := hx.ext hE (by omega)
      obtain ⟨p0', c0', p1', c1', p2', c2', p3', c3', hl0, -, -, -, h0', h1', -⟩ := (hV0.ext hEr).facts
      obtain ⟨b1, o1, q, c, rfl, hc1, hq⟩ := hl0.at k hkl
      have hk3 : k < 3 := by omega
      have hck := box3_cell hbox k hk3
      have hfk := box3_frozen hbox k
      have HS := Lib.hid (plansTo_succ V d f k s)
      clear hg hbox hjr h0 h1
      by_cases hlt : s < N
      · have hs64 : s < 64 := by omega
        have hpl := popc_le s
        have hrow := hO.titles k hkl
        have hgd : V.S.boxes.getD k [] = V.S.boxes[k] := by simp [List.getD, hkl]
        have HGD := Lib.hid hgd
        clear hgd
        by_cases hpop : popc s = V.S.boxes[k].length
        · have HP := Lib.hid hpop
          have hpop' : ((popc s : Int) != (V.S.boxes[k].length : Int)) = false := by simp [hpop]
          clear hpop
          go_upto_region 6 with (fail)
          go_quiet ((go_at_call 92; exact RetQ.quiet (many07 _ _ hs64)))
          go_upto_region 8 with (fail)
          obtain ⟨F, hF⟩ : ∃ F, F = upd f k s := ⟨_, rfl⟩
          obtain ⟨W3, hW3⟩ : ∃ W3, W3 = (wr.drewN nq).setCell ⟨W.heap.size, k, none⟩ (.int .u64 s) := ⟨_, rfl⟩
          have hb3w : W3.heap[W.heap.size]? = some (box3 F) := by
            rw [hW3, hF, ← HG.out s]; exact box3_set HB.out hk3 nq s
          have hx3 : ExtI B0 B1 W W3 := by
            rw [hW3]
            refine ⟨hx.os, hx.tape, hx.output, by rw [World.setCell]; simp only [Array.size_modify]; exact hx.size, fun i hi hb => ?_⟩
            rw [Below.heap_setCell _ _ _ _ (by show i ≠ W.heap.size; omega)]
            exact hx.block i hi hb
          have hj3 : J (pre ++ plansTo V d f k s) W3 := by
            refine hJ _ _ _ HJ.out ?_
            rw [hW3]
            exact Below.setCell (a := wr) (w := wr.drewN nq) (p := ⟨W.heap.size, k, none⟩) ⟨rfl, rfl, rfl, Nat.le_refl _, fun _ _ => rfl⟩ hB _
          have hE3 : Ext w0 W3 := hx3.ext hE (by omega)
          rw [← hW3]
          have hF64 : ∀ j, j < 3 → F j < 64 := by rw [hF]; exact upd_lt hf hs64
          have hs3 : B1 ≤ W3.heap.size := Nat.le_trans hB hx3.size
          have hb3l : W.heap.size < W3.heap.size := (Array.getElem?_eq_some_iff.1 hb3w).1
          have hr0 := box3_cell hb3w 0 (by decide)
          have hr1 := box3_cell hb3w 1 (by decide)
          have hr2 := box3_cell hb3w 2 (by decide)
          have HF := Lib.hid hF
          have hFC := fits07 F (k + 1) b V W3 (hV0.ext hE3) hO hF64 (by omega)
          rw [show ((k + 1 : Nat) : Int) = (k : Int) + 1 from by simp] at hFC
          have HB3 := Lib.hid hb3w
          clear hF hW3 hb3w h0' h1' hc1 hq hck hfk hsh hne hpop'
          by_cases hfit : FitsTo V F (k + 1)
          · have HFC := Lib.hid (RetE.bt hfit hFC)
            have HFIT := Lib.hid hfit
            clear hFC hfit
            unfold pl3 at HFC
            go_wp2_with fail
            refine HFC.out.mono ?_
            rintro e W4 ⟨rfl, hE4⟩
            replace hr0 := hE4.cell hr0
            replace hr1 := hE4.cell hr1
            replace hr2 := hE4.cell hr2
            have hj4 := hJ _ _ W4 hj3 (Below.mono hE4 hs3)
            have hP := ih (k + 1) F (pre ++ plansTo V d f k s) W4 (by have := HK.out; omega) hF64 (hE3.trans hE4) (Nat.le_trans hs3 hE4.size) hj4
            rw [show ((k + 1 : Nat) : Int) = (k : Int) + 1 from by simp] at hP
            have HP2 := Lib.hid hP
            clear hP
            unfold pl3 at HP2
            go_wp2_with fail
            refine HP2.out.mono ?_
            rintro e W5 ⟨rfl, hj5, hx5⟩
            go_wp2
            go_roundw
            case rel =>
              exact ⟨s + 1, F, by omega, by go_num, by intro t; rw [HF.out, upd_upd], (hx5.block _ (Nat.lt_of_lt_of_le hb3l hE4.size) (.inr hB)).trans ((Below.block hE4 _ hb3l).trans HB3.out), by
                rw [HS.out, if_pos ⟨by rw [HGD.out]; exact HP.out, by rw [← HF.out]; exact bP_t HFIT.out⟩, ← HF.out, ← List.append_assoc]
                exact hj5, (hx3.trans (hE4.toI _ _)).trans hx5⟩
            case measure => simp [intOf]; omega
          · have HFC := Lib.hid (RetE.bf hfit hFC)
            have HFIT := Lib.hid hfit
            clear hFC hfit
            unfold pl3 at HFC
            go_wp2_with fail
            refine HFC.out.mono ?_
            rintro e W4 ⟨rfl, hE4⟩
            have hj4 := hJ _ _ W4 hj3 (Below.mono hE4 hs3)
            go_wp2
            go_roundw
            case rel =>
              exact ⟨s + 1, F, by omega, by go_num, by intro t; rw [HF.out, upd_upd], (Below.block hE4 _ hb3l).trans HB3.out, by
                rw [HS.out, if_neg (by rw [← HF.out, bP_f HFIT.out]; simp), List.append_nil]
                exact hj4, hx3.trans (hE4.toI _ _)⟩
            case measure => simp [intOf]; omega
        · have HP := Lib.hid hpop
          have hpop' : ((popc s : Int) != (V.S.boxes[k].length : Int)) = true := by simp; omega
          clear hpop
          go_upto_region 6 with (fail)
          go_quiet ((go_at_call 92; exact RetQ.quiet (many07 _ _ hs64)))
          go_wp2
          go_roundw
          case rel =>
            exact ⟨s + 1, g, by omega, by go_num, HG.out, HB.out, by
              rw [HS.out, if_neg (by rw [HGD.out]; exact fun e => HP.out e.1), List.append_nil]
              exact hJ _ _ _ HJ.out ⟨rfl, rfl, rfl, Nat.le_refl _, fun _ _ => rfl⟩, hx.trans ⟨rfl, rfl, rfl, Nat.le_refl _, fun _ _ _ => rfl⟩⟩
          case measure => simp [intOf]; omega
      · obtain rfl : s = N := by omega
        go_wp2
        go_ret
        refine ⟨rfl, ?_, hx⟩
        rw [show plansL V (d + 1) f k = plansTo V d f k s from by rw [HN.out]; rfl]
        exact HJ.out

set_option maxHeartbeats 400000 in
theorem each07 (V : Visit) (hO : VOK V) (b l B0 B1 : Nat) (w0 : World) (hV0 : VisitAt w0 b V) (hB0 : w0.heap.size ≤ B0) (J : List (Nat → Nat) → World → Prop)
    (hJ : ∀ pre W W', J pre W → Below B1 W W' → J pre W') (hY : YieldAll Tryz.prog l pl3 okP B0 B1 J) (W : World) (hE : Ext w0 W) (hB : B1 ≤ W.heap.size) (hj : J [] W) :
    Calls Tryz.prog 41 #[.pointer (some ⟨b, 0, none⟩), .func (.yield l) #[] #[]] W
      fun e W' => (∃ v, e = .returned v) ∧ J (plansL V V.S.boxes.length (fun _ => 0) 0) W' ∧ ExtI B0 B1 W W' := by
  have HP := Lib.hid (plans07 V hO b l B0 B1 w0 hV0 hB0 J hJ hY V.S.boxes.length 0 (fun _ => 0) [] W (by omega) (by intro j _; exact (by decide : (0 : Nat) < 64)) hE hB hj)
  clear hY
  unfold pl3 at HP
  go_enter Tryz.func41, Tryz.ntmps41
  go_wp2_with fail
  refine HP.out.mono ?_
  rintro e W5 ⟨rfl, hj5, hx5⟩
  go_wp2
  go_end0
  exact ⟨⟨_, rfl⟩, hj5, hx5⟩
end Go.Proofs.YtppncdbhebgcaaaGreatDoor.Sw7
namespace Go.Proofs.YtppncdbhebgcaaaGreatDoor.Sw7
open Go.RowKit
attribute [local go_sem] Oper.semAt_some

/-- the most that plans of a list earn, and a plan that does -/
def bestStep (V : Visit) (m : Int × (Nat → Nat)) (q : Nat → Nat) : Int × (Nat → Nat) := if m.1 < sumTo V q V.S.boxes.length then (sumTo V q V.S.boxes.length, q) else m
def bestOf (V : Visit) (L : List (Nat → Nat)) : Int × (Nat → Nat) := L.foldl (bestStep V) (-1, fun _ => 0)
theorem bestOf_snoc (V : Visit) (L : List (Nat → Nat)) (q : Nat → Nat) : bestOf V (L ++ [q]) = bestStep V (bestOf V L) q := by simp [bestOf]

def cellI (n : Int) : Obj := .cells #[.int .i64 n] 3

theorem cell_frozen {w : World} {B : Nat} {cs : Array Value} {t : TypeId} (h : w.heap[B]? = some (.cells cs t (0, 0))) (k : Nat) : w.frozen? ⟨B, k, none⟩ = false := by
  simp [World.frozen?, h]

set_option maxHeartbeats 400000 in
theorem best07 (V : Visit) (hO : VOK V) (b : Nat) (w : World) (hV : VisitAt w b V) :
    Calls Tryz.prog 40 #[.pointer (some ⟨b, 0, none⟩)] w
      fun e w' => e = .returned (.tuple #[.int .i64 (bestOf V (plansL V V.S.boxes.length (fun _ => 0) 0)).1, pl3 (bestOf V (plansL V V.S.boxes.length (fun _ => 0) 0)).2]) ∧ Ext w w' := by
  refine calls_of_marks Tryz.func40 rfl ?_
  simp only [Tryz.ntmps40, List.size_toArray, List.length_cons, List.length_nil, Nat.reduceAdd, Nat.reduceSub, Array.replicate_succ, Array.replicate_zero, List.push_toArray, List.append_toArray, List.nil_append, List.cons_append]
  go_wp2
  obtain ⟨W1, hW⟩ : ∃ W1, W1 = (((w.alloc (.cells #[.pointer (some ⟨b, 0, none⟩)] 82)).alloc (.cells #[.int .i64 (-1)] 3)).alloc (.cells #[.int .u64 0, .int .u64 0, .int .u64 0] 80)) := ⟨_, rfl⟩
  have hE1 : Ext w W1 := by rw [hW]; exact Ext.alloc (Ext.alloc (Ext.alloc (Ext.refl w) _) _) _
  have hs1 : W1.heap.size = w.heap.size + 3 := by rw [hW]; simp
  have hv1 : W1.heap[w.heap.size]? = some (.cells #[.pointer (some ⟨b, 0, none⟩)] 82) := by
    rw [hW, Below.heap_alloc _ _ _ (by simp; omega), Below.heap_alloc _ _ _ (by simp), heap_new]
  have hm1 : W1.heap[w.heap.size + 1]? = some (cellI (-1)) := by
    rw [hW, Below.heap_alloc _ _ _ (by simp)]
    exact (by simp : (w.alloc (.cells #[.pointer (some ⟨b, 0, none⟩)] 82)).heap.size = w.heap.size + 1) ▸ heap_new _ _
  have hp1 : W1.heap[w.heap.size + 1 + 1]? = some (box3 fun _ => 0) := by
    rw [hW]
    exact (by simp : ((w.alloc (.cells #[.pointer (some ⟨b, 0, none⟩)] 82)).alloc (.cells #[.int .i64 (-1)] 3)).heap.size = w.heap.size + 1 + 1) ▸ heap_new _ _
  rw [← hW]
  clear hW
  obtain ⟨L, hL⟩ : ∃ L, L = plansL V V.S.boxes.length (fun _ => 0) 0 := ⟨_, rfl⟩
  refine range_all (fst := #[.pointer (some ⟨b, 0, none⟩)]) (gf := 41) (cap := #[]) rfl Tryz.call41 pl3 okP L w.heap.size (by omega)
    (fun pre W => W.heap[w.heap.size]? = some (.cells #[.pointer (some ⟨b, 0, none⟩)] 82) ∧ W.heap[w.heap.size + 1]? = some (cellI (bestOf V pre).1) ∧ W.heap[w.heap.size + 1 + 1]? = some (box3 (bestOf V pre).2) ∧ Ext w W)
    ?hI ⟨hv1, hm1, hp1, hE1⟩ ?hiter ?hround ?hdone
  case hI =>
    rintro pre W W' ⟨h1, h2, h3, h4⟩ hb
    exact ⟨(hb.block _ (by omega)).trans h1, (hb.block _ (by omega)).trans h2, (hb.block _ (by omega)).trans h3, Below.trans h4 (hb.mono (by omega))⟩
  case hiter =>
    intro l J hJ hY W hE hs hj
    rw [hL]
    exact each07 V hO b l w.heap.size (W1.heap.size + 2) w hV (Nat.le_refl _) J hJ hY W (hE1.trans hE) hs hj
  case hround =>
    rintro l pre x W hok rfl ⟨h1, h2, h3, h4⟩ hs
    have hn := heap_new W (.cells #[.int .u64 (x 0), .int .u64 (x 1), .int .u64 (x 2)] 80)
    unfold pl3
    gi_wp2
    refine ⟨Ext.alloc (Ext.refl W) _, fun W2 hW2 => ?_⟩
    obtain ⟨W', hW'⟩ : ∃ W', W' = W.alloc (.cells #[.int .u64 (x 0), .int .u64 (x 1), .int .u64 (x 2)] 80) := ⟨_, rfl⟩
    have hEW : Ext W W' := by rw [hW']; exact Ext.alloc (Ext.refl W) _
    rw [← hW'] at hn hW2
    have g1 := (hW2.block w.heap.size (by omega)).trans ((Below.block hEW _ (by omega)).trans h1)
    have g2 := (hW2.block (w.heap.size + 1) (by omega)).trans ((Below.block hEW _ (by omega)).trans h2)
    have g3 := (hW2.block (w.heap.size + 1 + 1) (by omega)).trans ((Below.block hEW _ (by omega)).trans h3)
    have g5 := (hW2.block W.heap.size (by omega)).trans hn
    have g4 : Ext w W2 := (h4.trans hEW).trans' (hW2.below (by omega))
    have hsz : W.heap.size < W2.heap.size := (Array.getElem?_eq_some_iff.1 g5).1
    clear hW' hn h1 h2 h3 h4 hEW hW2 hv1 hm1 hp1 hE1
    obtain ⟨mp, hmp⟩ : ∃ mp, mp = bestOf V pre := ⟨_, rfl⟩
    rw [← hmp] at g2 g3
    have HM := Lib.hid hmp
    clear hmp
    have hc1 := cell_of_heap g1 0
    have hc2 := cell_of_heap g2 0
    have hf2 := cell_frozen g2 0
    have hc30 := box3_cell g3 0 (by decide)
    have hc31 := box3_cell g3 1 (by decide)
    have hc32 := box3_cell g3 2 (by decide)
    have hf30 := box3_frozen g3 0
    have hf31 := box3_frozen g3 1
    have hf32 := box3_frozen g3 2
    have hc50 := box3_cell (g := x) g5 0 (by decide)
    have hc51 := box3_cell (g := x) g5 1 (by decide)
    have hc52 := box3_cell (g := x) g5 2 (by decide)
    simp at hc1 hc2
    have HS := sum07 x b V W2 (hV.ext g4) hO hok
    obtain ⟨n, hn⟩ : ∃ n, n = sumTo V x V.S.boxes.length := ⟨_, rfl⟩
    rw [← hn] at HS
    have HN := Lib.hid hn
    have HS2 := Lib.hid HS
    unfold pl3 at HS2
    clear hn HS
    by_cases hlt : mp.1 < n
    · gi_wp2_with fail
      refine ⟨trivial, rfl, ?_⟩
      refine (CallsIn.inRound _ (callsIn_wide.2 HS2.out)).mono ?_
      rintro e W3 ⟨rfl, hE3⟩
      replace hc1 := hE3.cell hc1
      replace hc2 := hE3.cell hc2
      replace hc50 := hE3.cell hc50
      replace hc51 := hE3.cell hc51
      replace hc52 := hE3.cell hc52
      replace hc30 := hE3.cell hc30
      replace hc31 := hE3.cell hc31
      replace hc32 := hE3.cell hc32
      replace g1 := (Below.block hE3 _ (by omega)).trans g1
      replace g2 := (Below.block hE3 _ (by omega)).trans g2
      replace g3 := (Below.block hE3 _ (by omega)).trans g3
      replace hf2 := cell_frozen g2 0
      replace hf30 := box3_frozen g3 0
      replace hf31 := box3_frozen g3 1
      replace hf32 := box3_frozen g3 2
      gi_wp2
      have hmo : Tryz.prog.follows .mixedOrders = true := by kernel_rfl
      gi_region_with_o (fail)
      all_goals gi_wp2
      all_goals
        refine and_dep ?_ (fun hx => ⟨?_, ?_, ?_, hx.ext g4 (Nat.le_refl _)⟩)
        · repeat (with_reducible (first | refine ExtI.drew ?_ | refine ExtI.set ?_ (by omega) (by omega) | exact hE3.toI _ _))
        · repeat (with_reducible (first | refine heap_drew ?_ | refine heap_set_ne (by omega) ?_ | exact g1))
        · rw [bestOf_snoc, bestStep, ← HN.out, ← HM.out, if_pos hlt]
          unfold cellI box3 at *
          repeat (with_reducible (first | refine heap_drew ?_ | refine heap_set_ne (by omega) ?_ | apply heap_set | exact g2))
          all_goals rfl
        · rw [bestOf_snoc, bestStep, ← HN.out, ← HM.out, if_pos hlt]
          unfold cellI box3 at *
          repeat (with_reducible (first | refine heap_drew ?_ | refine heap_set_ne (by omega) ?_ | apply heap_set | exact g3))
          all_goals rfl
    · gi_wp2_with fail
      refine ⟨trivial, rfl, ?_⟩
      refine (CallsIn.inRound _ (callsIn_wide.2 HS2.out)).mono ?_
      rintro e W3 ⟨rfl, hE3⟩
      replace hc1 := hE3.cell hc1
      replace hc2 := hE3.cell hc2
      replace g1 := (Below.block hE3 _ (by omega)).trans g1
      replace g2 := (Below.block hE3 _ (by omega)).trans g2
      replace g3 := (Below.block hE3 _ (by omega)).trans g3
      gi_wp2
      refine ⟨hE3.toI _ _, g1, ?_, ?_, g4.trans hE3⟩
      · rw [bestOf_snoc, bestStep, ← HN.out, ← HM.out, if_neg (by omega)]
        exact g2
      · rw [bestOf_snoc, bestStep, ← HN.out, ← HM.out, if_neg (by omega)]
        exact g3
  case hdone =>
    rintro W ⟨h1, h2, h3, h4⟩ hd
    obtain ⟨mp, hmp⟩ : ∃ mp, mp = bestOf V L := ⟨_, rfl⟩
    rw [← hmp] at h2 h3
    have HM := Lib.hid hmp
    clear hmp
    have hc2 := cell_of_heap h2 0
    have hf2 := cell_frozen h2 0
    have hc30 := box3_cell h3 0 (by decide)
    have hc31 := box3_cell h3 1 (by decide)
    have hc32 := box3_cell h3 2 (by decide)
    have hf30 := box3_frozen h3 0
    have hf31 := box3_frozen h3 1
    have hf32 := box3_frozen h3 2
    simp at hc2
    go_wp2
    go_region
    all_goals go_wp2
    all_goals
      refine marks_ret (v := .tuple #[.int .i64 mp.1, pl3 mp.2]) ?_ ?_ ?_
      · repeat (with_reducible (first | refine heap_drew ?_ | refine heap_set_ne (by omega) ?_ | exact hd))
      · intro W' hW'
        have k2 : W'.heap[w.heap.size + 1]? = some (.cells #[.int .i64 mp.1] 3) := by
          rw [hW'.block _ (by omega)]
          unfold cellI at h2
          repeat (with_reducible (first | refine heap_drew ?_ | refine heap_set_ne (by omega) ?_ | apply heap_set | exact h2))
          all_goals rfl
        have k3 : W'.heap[w.heap.size + 1 + 1]? = some (box3 mp.2) := by
          rw [hW'.block _ (by omega)]
          unfold box3 at *
          repeat (with_reducible (first | refine heap_drew ?_ | refine heap_set_ne (by omega) ?_ | apply heap_set | exact h3))
          all_goals rfl
        have e2 := cell_of_heap k2 0
        have e30 := box3_cell k3 0 (by decide)
        have e31 := box3_cell k3 1 (by decide)
        have e32 := box3_cell k3 2 (by decide)
        simp at e2
        simp [results, Tryz.results40, go_sem, e2, e30, e31, e32, pl3]
      · intro W' hW'
        refine ⟨by rw [HM.out, hL], ?_⟩
        refine Ext.trans' ?_ (hW'.below (by omega))
        repeat (with_reducible (first | refine Ext.drew ?_ | refine Ext.set ?_ (by omega) | exact h4))
end Go.Proofs.YtppncdbhebgcaaaGreatDoor.Sw7
namespace Go.Proofs.YtppncdbhebgcaaaGreatDoor.Sw7
open Go.RowKit

/-- v is returned, the world is as it was -/
def RetS (v : Value) (w : World) (e : Ending) (w' : World) : Prop := e = .returned v ∧ w = w'
theorem RetS.q {v : Value} {w : World} {P : Program} {f : FuncId} {args : Array Value} (h : Calls P f args w (RetS v w)) : Calls P f args w (RetQ v w) := h.mono fun _ _ ⟨he, hw⟩ => ⟨he, 0, hw.symm⟩
theorem RetS.bt {P : Program} {f : FuncId} {args : Array Value} {w : World} {p : Prop} (h : p) (hc : Calls P f args w (RetS (.bool (bP p)) w)) : Calls P f args w (RetS (.bool true) w) := by
  rwa [bP_t h] at hc
theorem RetS.bf {P : Program} {f : FuncId} {args : Array Value} {w : World} {p : Prop} (h : ¬p) (hc : Calls P f args w (RetS (.bool (bP p)) w)) : Calls P f args w (RetS (.bool false) w) := by
  rwa [bP_f h] at hc

theorem RetS.tt {p : Prop} {w : World} (h : p) : RetS (.bool (bP p)) w (.returned (.bool true)) w := ⟨by rw [bP_t h], rfl⟩
theorem RetS.ff {p : Prop} {w : World} (h : ¬p) : RetS (.bool (bP p)) w (.returned (.bool false)) w := ⟨by rw [bP_f h], rfl⟩
theorem RetS.fin {v v' : Value} {w : World} (h : v' = v) : RetS v w (.returned v') w := ⟨by rw [h], rfl⟩
theorem wrap_pow : ∀ x : Nat, x < 6 → IntKind.u64.wrap ((2 : Int) ^ x) = ((2 ^ x : Nat) : Int) := by decide

set_option maxHeartbeats 400000 in
theorem within07s (n lo hi : Int) (w : World) :
    Calls Tryz.prog 63 #[.int .i64 n, .int .i64 lo, .int .i64 hi] w (RetS (.bool (bP (lo ≤ n ∧ n ≤ hi))) w) := by
  go_enter Tryz.func63, Tryz.ntmps63
  by_cases h1 : lo ≤ n
  · by_cases h2 : n ≤ hi
    · go_wp2
      go_ret
      exact RetS.tt ⟨h1, h2⟩
    · go_wp2
      go_ret
      exact RetS.ff (by omega)
  · go_wp2
    go_ret
    exact RetS.ff (by omega)

/-- the set of titles -/
def maskOf (l : List Int) : Nat := l.foldl (fun s n => s ||| 2 ^ n.toNat) 0
theorem maskOf_snoc (l : List Int) (n : Int) : maskOf (l ++ [n]) = maskOf l ||| 2 ^ n.toNat := by simp [maskOf]
theorem mask_fold_lt (l : List Int) (h : ∀ n ∈ l, 0 ≤ n ∧ n ≤ 5) : ∀ s, s < 64 → l.foldl (fun s n => s ||| 2 ^ n.toNat) s < 64 := by
  induction l with
  | nil => intro s hs; exact hs
  | cons x r ih =>
    intro s hs
    have hx := h x (by simp)
    refine ih (fun n hn => h n (by simp [hn])) _ ?_
    exact Nat.or_lt_two_pow (n := 6) hs (Nat.pow_lt_pow_right (by decide) (by omega))
theorem maskOf_lt (l : List Int) (h : ∀ n ∈ l, 0 ≤ n ∧ n ≤ 5) : maskOf l < 64 := mask_fold_lt l h 0 (by decide)
/-- what parse returns -/
noncomputable def parseV (l : List Int) (t : Int) : Value := .tuple #[.int .u64 (if bP (Rises l 0 (t - 1)) = true then maskOf l else 0), .bool (bP (Rises l 0 (t - 1)))]
theorem parseV_t {l : List Int} {t : Int} (h : Rises l 0 (t - 1)) : parseV l t = .tuple #[.int .u64 (maskOf l), .bool true] := by simp [parseV, bP_t h]
theorem parseV_f {l : List Int} {t : Int} (h : ¬Rises l 0 (t - 1)) : parseV l t = .tuple #[.int .u64 0, .bool false] := by simp [parseV, bP_f h]

set_option maxHeartbeats 800000 in
theorem parse07 (p : Option Addr) (l : List Int) (c t : Nat) (w : World) (hl : l.length ≤ 100000) (ht : t ≤ 6) (h : IntsAt w p l) :
    Calls Tryz.prog 68 #[.slice p l.length c, .int .i64 t] w (RetS (parseV l t) w) := by
  go_enter Tryz.func68, Tryz.ntmps68
  go_wp2
  go_loop [6, 11] (fun s i => ∃ k m : Nat, k ≤ l.length ∧ i = .int .i64 k ∧ s = .int .u64 m ∧ m = maskOf (l.take k) ∧ Rises (l.take k) 0 ((t : Int) - 1)) (fun _ i => l.length - (intOf i).toNat)
  case atStart => exact ⟨0, 0, Nat.zero_le _, rfl, rfl, rfl, ⟨fun i h => absurd h (by simp), fun i h => absurd h (by simp)⟩⟩
  case round =>
    obtain ⟨k, m, hk, rfl, rfl, hm, hr⟩ := hrel
    have hm64 : m < 64 := by
      rw [hm]; exact maskOf_lt _ (fun n hn => by have := hr.mem n hn; omega)
    have HM := Lib.hid hm
    have HR := Lib.hid hr
    clear hr hm
    by_cases hlt : k < l.length
    · obtain ⟨b, o, rfl, hc⟩ := h.at k hlt
      by_cases hw : 0 ≤ l[k] ∧ l[k] ≤ (t : Int) - 1
      · have HW := Lib.hid hw
        have hpw := wrap_pow (l[k]).toNat (by omega)
        have h64 : 2 ^ (l[k]).toNat < 64 := Nat.pow_lt_pow_right (n := 6) (a := 2) (by decide) (by omega)
        have hor := bits_or_u64_nat m (2 ^ (l[k]).toNat) (by omega) (by omega)
        have hn0 := hw.1
        have hn1 : l[k] ≤ 5 := by omega
        have HC := Lib.hid (RetS.bt hw (within07s l[k] 0 ((t : Int) - 1) w))
        clear hw
        have hsn : Hid (maskOf (l.take (k + 1)) = maskOf (l.take k) ||| 2 ^ (l[k]).toNat) := by
          rw [List.take_succ_eq_append_getElem hlt]; exact maskOf_snoc _ _
        obtain ⟨P2, hP2⟩ : ∃ P2 : Nat, P2 = 2 ^ (l[k]).toNat := ⟨_, rfl⟩
        rw [← hP2] at hpw h64 hor hsn
        have HP2 := Lib.hid hP2
        clear hP2
        by_cases hk0 : 0 < k
        · obtain ⟨b', o', he, hc'⟩ := h.at (k - 1) (by omega)
          obtain ⟨rfl, rfl⟩ : b = b' ∧ o = o' := by simpa using he
          clear he
          have hx2 : ((k : Int) - 1).toNat = k - 1 := by omega
          have hx3 : 0 ≤ (k : Int) - 1 := by omega
          by_cases hle : l[k] ≤ l[k-1]
          · have HLE := Lib.hid hle
            go_wp2_with (go_at_call 63; refine HC.out.mono ?_; rintro e w' ⟨rfl, rfl⟩)
            go_ret2
            refine RetS.fin (parseV_f ?_).symm
            intro hR
            have := hR.2 (k-1) (by omega)
            simp only [show k - 1 + 1 = k from by omega] at this
            have := HLE.out
            omega
          · have HLE := Lib.hid hle
            go_wp2_with (go_at_call 63; refine HC.out.mono ?_; rintro e w' ⟨rfl, rfl⟩)
            go_round
            case rel => exact ⟨k + 1, m ||| P2, by omega, by go_num, by first | rfl | (rw [hpw, hor]), by rw [hsn.out, HM.out], Rises.take_succ hlt HR.out HW.out.1 HW.out.2 (by intro j hj; obtain rfl : j = k - 1 := (by omega); have := HLE.out; omega)⟩
            case measure => simp [intOf]; omega
        · obtain rfl : k = 0 := by omega
          simp only [Nat.add_zero] at hc
          clear hk0
          go_wp2_with (go_at_call 63; refine HC.out.mono ?_; rintro e w' ⟨rfl, rfl⟩)
          go_round
          case rel => exact ⟨0 + 1, m ||| P2, by omega, by go_num, by first | rfl | (rw [hpw, hor]), by rw [hsn.out, HM.out], Rises.take_succ hlt HR.out HW.out.1 HW.out.2 (by intro j hj; omega)⟩
          case measure => simp [intOf]; omega
      · have HW := Lib.hid hw
        have HC := Lib.hid (RetS.bf hw (within07s l[k] 0 ((t : Int) - 1) w))
        clear hw
        go_wp2_with (go_at_call 63; refine HC.out.mono ?_; rintro e w' ⟨rfl, rfl⟩)
        go_ret2
        refine RetS.fin (parseV_f ?_).symm
        intro hR
        exact HW.out (hR.1 k hlt)
    · have hfin : Hid (parseV l t = .tuple #[.int .u64 m, .bool true]) := by
        have h1 := HR.out
        have h2 := HM.out
        rw [List.take_of_length_le (by omega)] at h1 h2
        show _ = _
        rw [parseV_t h1, h2]
      go_wp2
      go_ret2
      exact RetS.fin hfin.out.symm
end Go.Proofs.YtppncdbhebgcaaaGreatDoor.Sw7
namespace Go.Proofs.YtppncdbhebgcaaaGreatDoor.Sw7
open Go.RowKit

/-- what is in the first boxes now -/
def nowTo (S : Swap) (k : Nat) : Nat → Nat := fun j => if j < k then maskOf (S.boxes.getD j []) else 0
theorem nowTo_succ (S : Swap) (k : Nat) : nowTo S (k + 1) = upd (nowTo S k) k (maskOf (S.boxes.getD k [])) := by
  funext j
  unfold nowTo upd
  by_cases h : j = k
  · subst h; simp
  · by_cases h2 : j < k
    · simp [h, h2, Nat.lt_succ_of_lt h2]
    · simp [h, h2, show ¬ j < k + 1 from by omega]
/-- what the first keeps keep -/
def keepTo (l : List (Int × Int)) : Nat → Nat := l.foldl (fun K k => upd K k.1.toNat (K k.1.toNat ||| 2 ^ k.2.toNat)) fun _ => 0
theorem keepTo_snoc (l : List (Int × Int)) (k : Int × Int) : keepTo (l ++ [k]) = upd (keepTo l) k.1.toNat (keepTo l k.1.toNat ||| 2 ^ k.2.toNat) := by simp [keepTo]
/-- how many copies there are of the first titles -/
def copiesTo (S : Swap) (now : Nat → Nat) (k : Nat) : Nat → Int := fun t => if t < k then S.stock.getD t 0 + cntB now t 3 else 0
def openV (S : Swap) : Visit := { S := S, now := nowTo S S.boxes.length, keeps := keepTo S.keeps, copies := copiesTo S (nowTo S S.boxes.length) S.stock.length }

def updI (f : Nat → Int) (k : Nat) (s : Int) : Nat → Int := fun j => if j = k then s else f j
theorem copiesTo_succ (S : Swap) (now : Nat → Nat) (k : Nat) : copiesTo S now (k + 1) = updI (copiesTo S now k) k (S.stock.getD k 0 + cntB now k 3) := by
  funext j
  unfold copiesTo updI
  by_cases h : j = k
  · subst h; simp
  · by_cases h2 : j < k
    · simp [h, h2, Nat.lt_succ_of_lt h2]
    · simp [h, h2, show ¬ j < k + 1 from by omega]

section
variable (p0 : Option Addr) (c0 : Nat) (p1 : Option Addr) (c1 : Nat) (p2 : Option Addr) (c2 : Nat) (p3 : Option Addr) (c3 : Nat) (S : Swap) (now keeps : Nat → Nat) (copies : Nat → Int)
theorem visit_set_now (k s : Nat) (hk : k < 3) : visitCells p0 c0 p1 c1 p2 c2 p3 c3 ⟨S, upd now k s, keeps, copies⟩ = (visitCells p0 c0 p1 c1 p2 c2 p3 c3 ⟨S, now, keeps, copies⟩).setIfInBounds (5 + k) (.int .u64 s) := by
  obtain rfl | rfl | rfl : k = 0 ∨ k = 1 ∨ k = 2 := by omega
  all_goals rfl
theorem visit_set_keeps (k s : Nat) (hk : k < 3) : visitCells p0 c0 p1 c1 p2 c2 p3 c3 ⟨S, now, upd keeps k s, copies⟩ = (visitCells p0 c0 p1 c1 p2 c2 p3 c3 ⟨S, now, keeps, copies⟩).setIfInBounds (8 + k) (.int .u64 s) := by
  obtain rfl | rfl | rfl : k = 0 ∨ k = 1 ∨ k = 2 := by omega
  all_goals rfl
theorem visit_set_copies (k : Nat) (s : Int) (hk : k < 6) : visitCells p0 c0 p1 c1 p2 c2 p3 c3 ⟨S, now, keeps, updI copies k s⟩ = (visitCells p0 c0 p1 c1 p2 c2 p3 c3 ⟨S, now, keeps, copies⟩).setIfInBounds (11 + k) (.int .i64 s) := by
  obtain rfl | rfl | rfl | rfl | rfl | rfl : k = 0 ∨ k = 1 ∨ k = 2 ∨ k = 3 ∨ k = 4 ∨ k = 5 := by omega
  all_goals rfl
end

theorem visit_copies_cell (p0 : Option Addr) (c0 : Nat) (p1 : Option Addr) (c1 : Nat) (p2 : Option Addr) (c2 : Nat) (p3 : Option Addr) (c3 : Nat) (S : Swap) (now keeps : Nat → Nat) (copies : Nat → Int) (k : Nat) (hk : k < 6) :
    (visitCells p0 c0 p1 c1 p2 c2 p3 c3 ⟨S, now, keeps, copies⟩)[11 + k]? = some (.int .i64 (copies k)) := by
  obtain rfl | rfl | rfl | rfl | rfl | rfl : k = 0 ∨ k = 1 ∨ k = 2 ∨ k = 3 ∨ k = 4 ∨ k = 5 := by omega
  all_goals rfl

/-- a visit at work over the world a, in which its lists lay -/
def VisitB (a w : World) (b : Nat) (V : Visit) : Prop := ∃ p0 c0 p1 c1 p2 c2 p3 c3, Ext a w ∧ a.heap.size ≤ b ∧
  w.heap[b]? = some (.cells (visitCells p0 c0 p1 c1 p2 c2 p3 c3 V) 122 (0, 0)) ∧
  ListsAt a p0 V.S.boxes ∧ IntsAt a p1 V.S.stock ∧ ListsAt a p2 V.S.earn ∧ PairsAt a p3 V.S.keeps
theorem VisitB.at {a w : World} {b : Nat} {V : Visit} (h : VisitB a w b V) : VisitAt w b V := ⟨a, h⟩
theorem VisitB.ext {a w w' : World} {b : Nat} {V : Visit} (h : VisitB a w b V) (hE : Ext w w') : VisitB a w' b V := by
  obtain ⟨p0, c0, p1, c1, p2, c2, p3, c3, h1, h2, h3, h4⟩ := h
  exact ⟨p0, c0, p1, c1, p2, c2, p3, c3, h1.trans hE, h2, (Below.block hE b (Array.getElem?_eq_some_iff.1 h3).1).trans h3, h4⟩
theorem VisitB.set {a w : World} {b B o : Nat} {V : Visit} {u : Value} (h : VisitB a w b V) (hB : a.heap.size ≤ B) (hne : b ≠ B) : VisitB a (w.setCell ⟨B, o, none⟩ u) b V := by
  obtain ⟨p0, c0, p1, c1, p2, c2, p3, c3, h1, h2, h3, h4⟩ := h
  exact ⟨p0, c0, p1, c1, p2, c2, p3, c3, h1.set hB, h2, heap_set_ne hne h3, h4⟩

theorem maskOf_box {S : Swap} (hS : Valid S) (j : Nat) : maskOf (S.boxes.getD j []) < 64 := by
  by_cases h : j < S.boxes.length
  · have hr := (hS.box j h).2
    have ht := hS.stock
    rw [show S.boxes.getD j [] = S.boxes[j] from by simp [List.getD, h]]
    exact maskOf_lt _ (fun n hn => by have := hr.mem n hn; omega)
  · rw [show S.boxes.getD j [] = [] from by simp [List.getD, List.getElem?_eq_none (by omega : S.boxes.length ≤ j)]]
    decide
theorem nowTo_lt {S : Swap} (hS : Valid S) (k j : Nat) : nowTo S k j < 64 := by
  unfold nowTo
  split
  · exact maskOf_box hS j
  · decide

theorem ints_mem_bound {S : Swap} (hS : Valid S) (i : Nat) (h : i < S.keeps.length) : 0 ≤ S.keeps[i].2 ∧ S.keeps[i].2 ≤ 5 := by
  obtain ⟨h1, h2, h3⟩ := hS.keep i h
  have hb : S.keeps[i].1.toNat < S.boxes.length := by omega
  rw [show S.boxes.getD S.keeps[i].1.toNat [] = S.boxes[S.keeps[i].1.toNat] from by simp [List.getD, hb]] at h3
  have hr := (hS.box _ hb).2.mem _ h3
  have := hS.stock
  omega
theorem keepTo_lt {S : Swap} (hS : Valid S) : ∀ k, k ≤ S.keeps.length → ∀ j, keepTo (S.keeps.take k) j < 64
  | 0, _, j => by simp [keepTo]
  | k + 1, h, j => by
    rw [List.take_succ_eq_append_getElem (by omega), keepTo_snoc]
    unfold upd
    have hb := ints_mem_bound hS k (by omega)
    split
    · exact Nat.or_lt_two_pow (n := 6) (keepTo_lt hS k (by omega) _) (Nat.pow_lt_pow_right (by decide) (by omega))
    · exact keepTo_lt hS k (by omega) j

set_option maxHeartbeats 1600000 in
theorem open07s (v : Value) (S : Swap) (w : World) (hv : SwapV w v S) (hS : Valid S) :
    Calls Tryz.prog 39 #[v] w fun e w' => ∃ b, e = .returned (.pointer (some ⟨b, 0, none⟩)) ∧ (∀ a, Ext a w → SwapV a v S → VisitB a w' b (openV S)) ∧ Ext w w' ∧ w.heap.size ≤ b := by
  obtain ⟨p0, c0, p1, c1, p2, c2, p3, c3, rfl, h0, h1, h2, h3⟩ := hv
  have hb3 := hS.boxes
  have ht6 := hS.stock
  have hk4 := hS.keeps
  go_enter Tryz.func39, Tryz.ntmps39
  go_upto_region 2 with (fail)
  obtain ⟨W1, hW⟩ : ∃ W1, W1 = (w.alloc (.cells #[.slice p0 S.boxes.length c0, .slice p1 S.stock.length c1, .slice p2 S.earn.length c2, .slice p3 S.keeps.length c3, .int .i64 S.changes] 33)).alloc
      (.cells #[.slice p0 S.boxes.length c0, .slice p1 S.stock.length c1, .slice p2 S.earn.length c2, .slice p3 S.keeps.length c3, .int .i64 S.changes, .int .u64 0, .int .u64 0, .int .u64 0, .int .u64 0, .int .u64 0, .int .u64 0, .int .i64 0, .int .i64 0, .int .i64 0, .int .i64 0, .int .i64 0, .int .i64 0] 122) := ⟨_, rfl⟩
  have hE1 : Ext w W1 := by rw [hW]; exact Ext.alloc (Ext.alloc (Ext.refl w) _) _
  have hsb : W1.heap[w.heap.size]? = some (.cells #[.slice p0 S.boxes.length c0, .slice p1 S.stock.length c1, .slice p2 S.earn.length c2, .slice p3 S.keeps.length c3, .int .i64 S.changes] 33) := by
    rw [hW, Below.heap_alloc _ _ _ (by simp), heap_new]
  have hvb : W1.heap[w.heap.size + 1]? = some (.cells (visitCells p0 c0 p1 c1 p2 c2 p3 c3 ⟨S, nowTo S 0, keepTo [], copiesTo S (fun _ => 0) 0⟩) 122) := by
    rw [hW]
    exact (by simp : (w.alloc (.cells #[.slice p0 S.boxes.length c0, .slice p1 S.stock.length c1, .slice p2 S.earn.length c2, .slice p3 S.keeps.length c3, .int .i64 S.changes] 33)).heap.size = w.heap.size + 1) ▸ heap_new _ _
  rw [← hW]
  clear hW
  have q0 := cell_of_heap hsb 0
  simp at q0
  go_wp2
  go_loopw [16] (fun i wr => ∃ k : Nat, k ≤ S.boxes.length ∧ i = .int .i64 k ∧
      wr.heap[w.heap.size]? = some (.cells #[.slice p0 S.boxes.length c0, .slice p1 S.stock.length c1, .slice p2 S.earn.length c2, .slice p3 S.keeps.length c3, .int .i64 S.changes] 33) ∧
      wr.heap[w.heap.size + 1]? = some (.cells (visitCells p0 c0 p1 c1 p2 c2 p3 c3 ⟨S, nowTo S k, keepTo [], copiesTo S (fun _ => 0) 0⟩) 122) ∧ Ext w wr) (fun i _ => S.boxes.length - (intOf i).toNat)
  case atStart => exact ⟨0, by omega, rfl, hsb, hvb, hE1⟩
  case round =>
    obtain ⟨k, hk, rfl, hsr, hvr, hE⟩ := hrel
    have HV := Lib.hid hvr
    have HSB := Lib.hid hsr
    have q1 := cell_of_heap hsr 1
    simp at q1
    by_cases hlt : k < S.boxes.length
    · obtain ⟨b1, o1, q, c, rfl, hc1, hq⟩ := (h0.ext hE).at k hlt
      have hk3 : k < 3 := by omega
      have hc := cell_of_heap hvr (5 + k)
      have hcv : (visitCells (some ⟨b1, o1, none⟩) c0 p1 c1 p2 c2 p3 c3 ⟨S, nowTo S k, keepTo [], copiesTo S (fun _ => 0) 0⟩)[5 + k]? = some (.int .u64 (nowTo S k k)) := by
        obtain rfl | rfl | rfl : k = 0 ∨ k = 1 ∨ k = 2 := by omega
        all_goals rfl
      rw [hcv] at hc
      have hfz := cell_frozen hvr (5 + k)
      have hrow := hS.box k hlt
      have hr1 := hrow.1
      have HC := parse07 q S.boxes[k] c S.stock.length wr.drew (by omega) ht6 (hq.ext (Ext.drew (Ext.refl _)))
      rw [parseV_t hrow.2] at HC
      have HC2 := Lib.hid HC
      clear HC hrow hcv hvr hsr hsb hvb hE1
      go_upto_region 5 with (fail)
      go_region_with (go_at_call 68; refine HC2.out.mono ?_; rintro e w' ⟨rfl, rfl⟩)
      all_goals
        go_wp2
        go_roundw
        case rel =>
          refine ⟨k + 1, by omega, by go_num, ?_, ?_, ?_⟩
          · repeat (with_reducible (first | refine heap_drew ?_ | refine heap_set_ne (by omega) ?_ | exact HSB.out))
          · rw [nowTo_succ, show S.boxes.getD k [] = S.boxes[k] from by simp [List.getD, hlt], visit_set_now _ _ _ _ _ _ _ _ _ _ _ _ _ _ hk3]
            repeat (with_reducible (first | refine heap_drew ?_ | refine heap_set_ne (by omega) ?_ | apply heap_set | exact HV.out))
            all_goals rfl
          · repeat (with_reducible (first | refine Ext.drew ?_ | refine Ext.set ?_ (by omega) | exact hE))
        case measure => simp [intOf]; omega
    · obtain rfl : k = S.boxes.length := by omega
      clear hsb hvb hE1 hvr
      have q3 := cell_of_heap hsr 3
      simp at q3
      clear hsr q0 q1
      go_wp2
      go_loopw [38] (fun i wr => ∃ k : Nat, k ≤ S.keeps.length ∧ i = .int .i64 k ∧
          wr.heap[w.heap.size]? = some (.cells #[.slice p0 S.boxes.length c0, .slice p1 S.stock.length c1, .slice p2 S.earn.length c2, .slice p3 S.keeps.length c3, .int .i64 S.changes] 33) ∧
          wr.heap[w.heap.size + 1]? = some (.cells (visitCells p0 c0 p1 c1 p2 c2 p3 c3 ⟨S, nowTo S S.boxes.length, keepTo (S.keeps.take k), copiesTo S (fun _ => 0) 0⟩) 122) ∧ Ext w wr) (fun i _ => S.keeps.length - (intOf i).toNat)
      case atStart => exact ⟨0, by omega, rfl, HSB.out, HV.out, hE⟩
      case round =>
        clear HSB HV hE q3
        obtain ⟨k, hk, rfl, hsr, hvr, hE⟩ := hrel
        have HV := Lib.hid hvr
        have HSB := Lib.hid hsr
        by_cases hlt : k < S.keeps.length
        · obtain ⟨b1, o1, rfl, hc1, hc2⟩ := (h3.ext hE).at k hlt
          obtain ⟨hk1, hk2, -⟩ := hS.keep k hlt
          obtain ⟨ht1, ht2⟩ := ints_mem_bound hS k hlt
          have hlast : S.keeps.take (k + 1) = S.keeps.take k ++ [S.keeps[k]] := List.take_succ_eq_append_getElem hlt
          have hK64 := keepTo_lt hS k hk
          obtain ⟨K, hK⟩ : ∃ K, K = S.keeps[k] := ⟨_, rfl⟩
          rw [← hK] at hc1 hc2 hk1 hk2 ht1 ht2 hlast
          obtain ⟨K1, K2⟩ := K
          simp only at hc1 hc2 hk1 hk2 ht1 ht2
          obtain ⟨kb, rfl⟩ := Int.eq_ofNat_of_zero_le hk1
          obtain ⟨kt, rfl⟩ := Int.eq_ofNat_of_zero_le ht1
          have hkb3 : kb < 3 := by omega
          have hpw := wrap_pow kt (by omega)
          obtain ⟨P2, hP2⟩ : ∃ P2 : Nat, P2 = 2 ^ kt := ⟨_, rfl⟩
          have hP64 : P2 < 64 := by rw [hP2]; exact Nat.pow_lt_pow_right (n := 6) (a := 2) (by decide) (by omega)
          rw [← hP2] at hpw
          have hor := bits_or_u64_nat (keepTo (S.keeps.take k) kb) P2 (by have := hK64 kb; omega) (by omega)
          have HL := Lib.hid hlast
          have HP2 := Lib.hid hP2
          have hs1 : w.heap.size + 1 < wr.heap.size := (Array.getElem?_eq_some_iff.1 hvr).1
          clear hlast hP2 hK hvr hsr hK64
          go_upto_region 10 with (fail)
          obtain ⟨W2, hW2⟩ : ∃ W2, W2 = wr.alloc (.cells #[.int .i64 kb, .int .i64 kt] 116) := ⟨_, rfl⟩
          have hE2 : Ext wr W2 := by rw [hW2]; exact Ext.alloc (Ext.refl _) _
          have hn2 := heap_new wr (.cells #[.int .i64 kb, .int .i64 kt] 116)
          rw [← hW2] at hn2 ⊢
          have n0 := cell_of_heap hn2 0
          have n1 := cell_of_heap hn2 1
          simp at n0 n1
          have hv2 := (Below.block hE2 _ hs1).trans HV.out
          have HS2 := Lib.hid ((Below.block hE2 _ (by omega)).trans HSB.out)
          have HV2 := Lib.hid hv2
          have hc := cell_of_heap hv2 (8 + kb)
          have hcv : (visitCells p0 c0 p1 c1 p2 c2 (some ⟨b1, o1, none⟩) c3 ⟨S, nowTo S S.boxes.length, keepTo (S.keeps.take k), copiesTo S (fun _ => 0) 0⟩)[8 + kb]? = some (.int .u64 (keepTo (S.keeps.take k) kb)) := by
            obtain rfl | rfl | rfl : kb = 0 ∨ kb = 1 ∨ kb = 2 := by omega
            all_goals rfl
          rw [hcv] at hc
          have hfz := cell_frozen hv2 (8 + kb)
          obtain ⟨kk, hkk⟩ : ∃ kk, kk = keepTo (S.keeps.take k) kb := ⟨_, rfl⟩
          rw [← hkk] at hc hor
          have HKK := Lib.hid hkk
          clear hW2 hcv hv2 hkk hn2
          go_region
          all_goals
            go_wp2
            go_roundw
            case rel =>
              refine ⟨k + 1, by omega, by go_num, ?_, ?_, ?_⟩
              · repeat (with_reducible (first | refine heap_drew ?_ | refine heap_set_ne (by omega) ?_ | exact HS2.out))
              · rw [HL.out, keepTo_snoc, visit_set_keeps _ _ _ _ _ _ _ _ _ _ _ _ _ _ (by simpa using hkb3)]
                repeat (with_reducible (first | refine heap_drew ?_ | refine heap_set_ne (by omega) ?_ | apply heap_set | exact HV2.out))
                all_goals (simp only [Int.toNat_natCast]; rw [← HKK.out, ← HP2.out])
              · repeat (with_reducible (first | refine Ext.drew ?_ | refine Ext.set ?_ (by omega) | exact hE.trans hE2))
            case measure => simp [intOf]; omega
        · obtain rfl : k = S.keeps.length := by omega
          rw [List.take_length] at hvr
          have HV2 := Lib.hid hvr
          have q1 := cell_of_heap hsr 1
          simp at q1
          clear hsr hvr HV
          go_wp2
          go_loopw [60] (fun i wr => ∃ k : Nat, k ≤ S.stock.length ∧ i = .int .i64 k ∧
              wr.heap[w.heap.size + 1]? = some (.cells (visitCells p0 c0 p1 c1 p2 c2 p3 c3 ⟨S, nowTo S S.boxes.length, keepTo S.keeps, copiesTo S (nowTo S S.boxes.length) k⟩) 122) ∧ Ext w wr) (fun i _ => S.stock.length - (intOf i).toNat)
          case atStart => exact ⟨0, by omega, rfl, HV2.out, hE⟩
          case round =>
            clear hE HSB HV2 q1
            obtain ⟨t, ht, rfl, hvr, hE⟩ := hrel
            have HV := Lib.hid hvr
            by_cases hlt : t < S.stock.length
            · obtain ⟨b1, o1, rfl, hc1⟩ := (h1.ext hE).at t hlt
              obtain ⟨hst1, hst2⟩ := hS.st t hlt
              have hs1 : w.heap.size + 1 < wr.heap.size := (Array.getElem?_eq_some_iff.1 hvr).1
              have g0 := cell_of_heap hvr 5
              have g1 := cell_of_heap hvr 6
              have g2 := cell_of_heap hvr 7
              rw [show (visitCells p0 c0 (some ⟨b1, o1, none⟩) c1 p2 c2 p3 c3 ⟨S, nowTo S S.boxes.length, keepTo S.keeps, copiesTo S (nowTo S S.boxes.length) t⟩)[5]? = some (.int .u64 (nowTo S S.boxes.length 0)) from rfl] at g0
              rw [show (visitCells p0 c0 (some ⟨b1, o1, none⟩) c1 p2 c2 p3 c3 ⟨S, nowTo S S.boxes.length, keepTo S.keeps, copiesTo S (nowTo S S.boxes.length) t⟩)[6]? = some (.int .u64 (nowTo S S.boxes.length 1)) from rfl] at g1
              rw [show (visitCells p0 c0 (some ⟨b1, o1, none⟩) c1 p2 c2 p3 c3 ⟨S, nowTo S S.boxes.length, keepTo S.keeps, copiesTo S (nowTo S S.boxes.length) t⟩)[7]? = some (.int .u64 (nowTo S S.boxes.length 2)) from rfl] at g2
              have hHC := boxes07 (nowTo S S.boxes.length) t wr.drew (fun k _ => nowTo_lt hS _ k) (by omega)
              have hcb := cntB_le (nowTo S S.boxes.length) t 3
              obtain ⟨f, hf⟩ : ∃ f, f = nowTo S S.boxes.length := ⟨_, rfl⟩
              rw [← hf] at g0 g1 g2 hHC hcb
              obtain ⟨m, hm⟩ : ∃ m, m = cntB f t 3 := ⟨_, rfl⟩
              rw [← hm] at hHC hcb
              have hsum : IntKind.i64.wrap (S.stock[t] + (m : Int)) = S.stock[t] + m := IntWalk.i64_in _ (by omega)
              unfold pl3 at hHC
              have HC2 := Lib.hid hHC
              have HF := Lib.hid hf
              have HM := Lib.hid hm
              clear hvr hf hm hHC
              go_upto_region 15 with (fail)
              go_region_with (go_at_call 73; refine HC2.out.mono ?_; rintro e W5 ⟨rfl, hE5⟩; have hv5 := (Below.block hE5 _ hs1).trans HV.out; have hc5 := (cell_of_heap hv5 (11 + t)).trans (visit_copies_cell _ _ _ _ _ _ _ _ _ _ _ _ t (by omega)); have hf5 := cell_frozen hv5 (11 + t); have HV5 := Lib.hid hv5; clear hv5)
              all_goals
                go_wp2
                go_roundw
                case rel =>
                  refine ⟨t + 1, by omega, by go_num, ?_, ?_⟩
                  · rw [copiesTo_succ, visit_set_copies _ _ _ _ _ _ _ _ _ _ _ _ _ _ (by omega), show S.stock.getD t 0 = S.stock[t] from by simp [List.getD, hlt]]
                    repeat (with_reducible (first | refine heap_drew ?_ | refine heap_set_ne (by omega) ?_ | apply heap_set | exact HV5.out))
                    all_goals (rw [← HF.out, ← HM.out])
                  · repeat (with_reducible (first | refine Ext.drew ?_ | refine Ext.set ?_ (by omega) | exact (hE.drew).trans hE5))
                case measure => simp [intOf]; omega
            · obtain rfl : t = S.stock.length := by omega
              go_wp2
              go_ret
              refine ⟨w.heap.size + 1, rfl, fun a ha hva => ?_, hE, by omega⟩
              obtain ⟨p0', c0', p1', c1', p2', c2', p3', c3', he, k0, k1, k2, k3⟩ := hva
              have hsz := ha.size
              simp only [Value.agg.injEq, Array.mk.injEq, List.cons.injEq, Value.slice.injEq, and_true, true_and] at he
              obtain ⟨⟨rfl, rfl⟩, ⟨rfl, rfl⟩, ⟨rfl, rfl⟩, rfl, rfl⟩ := he
              exact ⟨_, _, _, _, _, _, _, _, ha.trans hE, by omega, hvr, k0, k1, k2, k3⟩

theorem open07 (v : Value) (S : Swap) (w : World) (hv : SwapV w v S) (hS : Valid S) :
    Calls Tryz.prog 39 #[v] w fun e w' => ∃ b, e = .returned (.pointer (some ⟨b, 0, none⟩)) ∧ VisitAt w' b (openV S) ∧ Ext w w' ∧ w.heap.size ≤ b :=
  (open07s v S w hv hS).mono fun _ _ ⟨b, h1, h2, h3, h4⟩ => ⟨b, h1, (h2 w (Ext.refl w) hv).at, h3, h4⟩
end Go.Proofs.YtppncdbhebgcaaaGreatDoor.Sw7
namespace Go.Proofs.YtppncdbhebgcaaaGreatDoor.Sw7
open Go.RowKit

def IdxPost (p : Prop) (w : World) (e : Ending) (w' : World) : Prop := ∃ n : Int, e = .returned (.int .i64 n) ∧ (0 ≤ n ↔ p) ∧ Ext w w'

/-- a function value that asks each element of a list -/
def Asks {α : Type} (R : World → Value → α → Prop) (g : Nat) (cap : Array Value) (w : World) (l : List α) (p : α → Prop) : Prop :=
  (∀ args w, (callFunc g args).run Tryz.prog w = .ok (.enter g args) w) ∧ ∀ w' v x, Ext w w' → x ∈ l → R w' v x → Calls Tryz.prog g (#[v] ++ cap) w' (RetE (.bool (bP (p x))) w')

set_option maxHeartbeats 800000 in
theorem IndexFuncInt (p : Option Addr) (l : List Int) (c g : Nat) (cap : Array Value) (w : World) (q : Int → Prop) (hl : l.length ≤ 100000) (h : IntsAt w p l) (ha : Asks IntR g cap w l q) :
    Calls Tryz.prog 88 #[.slice p l.length c, .func (.func g) #[] cap] w (IdxPost (∃ x ∈ l, q x) w) := by
  obtain ⟨hcall, hf⟩ := ha
  have HF := Lib.hid hf
  clear hf
  go_enter Tryz.func88, Tryz.ntmps88
  go_wp2
  go_loopw [8] (fun i wr => ∃ k : Nat, k ≤ l.length ∧ i = .int .i64 k ∧ (∀ x ∈ l.take k, ¬q x) ∧ Ext w wr) (fun i _ => l.length - (intOf i).toNat)
  case atStart => exact ⟨0, by omega, rfl, by simp, Ext.refl _⟩
  case round =>
    obtain ⟨k, hk, rfl, hr, hE⟩ := hrel
    have HR := Lib.hid hr
    clear hr
    by_cases hlt : k < l.length
    · obtain ⟨b, o, rfl, hc⟩ := (h.ext hE).at k hlt
      have hC := HF.out wr (.int .i64 l[k]) l[k] hE (List.getElem_mem hlt) rfl
      by_cases hq : q l[k]
      · have HC := Lib.hid (RetE.bt hq hC)
        have HQ := Lib.hid hq
        clear hC hq
        go_wp2_with fail
        refine HC.out.mono ?_
        rintro e W2 ⟨rfl, hE2⟩
        go_wp2
        go_ret
        exact ⟨k, rfl, ⟨fun _ => ⟨_, List.getElem_mem hlt, HQ.out⟩, fun _ => by omega⟩, hE.trans hE2⟩
      · have HC := Lib.hid (RetE.bf hq hC)
        have HQ := Lib.hid hq
        clear hC hq
        go_wp2_with fail
        refine HC.out.mono ?_
        rintro e W2 ⟨rfl, hE2⟩
        go_wp2
        go_roundw
        case rel => exact ⟨k + 1, by omega, by go_num, by
          rw [List.take_succ_eq_append_getElem hlt]
          intro x hx
          rcases List.mem_append.1 hx with h1 | h1
          · exact HR.out x h1
          · rw [List.mem_singleton.1 h1]; exact HQ.out, hE.trans hE2⟩
        case measure => simp [intOf]; omega
    · go_wp2
      go_ret
      exact ⟨-1, rfl, ⟨fun h => absurd h (by decide), fun ⟨x, hx, hqx⟩ => absurd hqx (HR.out x (by rwa [List.take_of_length_le (by omega)]))⟩, hE⟩

def PairV (_ : World) (v : Value) (x : Int × Int) : Prop := v = .agg #[.int .i64 x.1, .int .i64 x.2]

set_option maxHeartbeats 800000 in
theorem IndexFuncLists (p : Option Addr) (l : List (List Int)) (c g : Nat) (cap : Array Value) (w : World) (q : List Int → Prop) (hl : l.length ≤ 100000) (h : ListsAt w p l) (ha : Asks IntsV g cap w l q) :
    Calls Tryz.prog 90 #[.slice p l.length c, .func (.func g) #[] cap] w (IdxPost (∃ x ∈ l, q x) w) := by
  obtain ⟨hcall, hf⟩ := ha
  have HF := Lib.hid hf
  clear hf
  go_enter Tryz.func90, Tryz.ntmps90
  go_wp2
  go_loopw [8] (fun i wr => ∃ k : Nat, k ≤ l.length ∧ i = .int .i64 k ∧ (∀ x ∈ l.take k, ¬q x) ∧ Ext w wr) (fun i _ => l.length - (intOf i).toNat)
  case atStart => exact ⟨0, by omega, rfl, by simp, Ext.refl _⟩
  case round =>
    obtain ⟨k, hk, rfl, hr, hE⟩ := hrel
    have HR := Lib.hid hr
    clear hr
    by_cases hlt : k < l.length
    · obtain ⟨b, o, q', c', rfl, hc, hq'⟩ := (h.ext hE).at k hlt
      have hC := HF.out wr (.slice q' (l[k]).length c') l[k] hE (List.getElem_mem hlt) ⟨q', c', rfl, hq'⟩
      by_cases hq : q l[k]
      · have HC := Lib.hid (RetE.bt hq hC)
        have HQ := Lib.hid hq
        clear hC hq
        go_wp2_with fail
        refine HC.out.mono ?_
        rintro e W2 ⟨rfl, hE2⟩
        go_wp2
        go_ret
        exact ⟨k, rfl, ⟨fun _ => ⟨_, List.getElem_mem hlt, HQ.out⟩, fun _ => by omega⟩, hE.trans hE2⟩
      · have HC := Lib.hid (RetE.bf hq hC)
        have HQ := Lib.hid hq
        clear hC hq
        go_wp2_with fail
        refine HC.out.mono ?_
        rintro e W2 ⟨rfl, hE2⟩
        go_wp2
        go_roundw
        case rel => exact ⟨k + 1, by omega, by go_num, by
          rw [List.take_succ_eq_append_getElem hlt]
          intro x hx
          rcases List.mem_append.1 hx with h1 | h1
          · exact HR.out x h1
          · rw [List.mem_singleton.1 h1]; exact HQ.out, hE.trans hE2⟩
        case measure => simp [intOf]; omega
    · go_wp2
      go_ret
      exact ⟨-1, rfl, ⟨fun h => absurd h (by decide), fun ⟨x, hx, hqx⟩ => absurd hqx (HR.out x (by rwa [List.take_of_length_le (by omega)]))⟩, hE⟩

set_option maxHeartbeats 800000 in
theorem IndexFuncKeeps (p : Option Addr) (l : List (Int × Int)) (c g : Nat) (cap : Array Value) (w : World) (q : Int × Int → Prop) (hl : l.length ≤ 100000) (h : PairsAt w p l) (ha : Asks PairV g cap w l q) :
    Calls Tryz.prog 91 #[.slice p l.length c, .func (.func g) #[] cap] w (IdxPost (∃ x ∈ l, q x) w) := by
  obtain ⟨hcall, hf⟩ := ha
  have HF := Lib.hid hf
  clear hf
  go_enter Tryz.func91, Tryz.ntmps91
  go_wp2
  go_loopw [8] (fun i wr => ∃ k : Nat, k ≤ l.length ∧ i = .int .i64 k ∧ (∀ x ∈ l.take k, ¬q x) ∧ Ext w wr) (fun i _ => l.length - (intOf i).toNat)
  case atStart => exact ⟨0, by omega, rfl, by simp, Ext.refl _⟩
  case round =>
    obtain ⟨k, hk, rfl, hr, hE⟩ := hrel
    have HR := Lib.hid hr
    clear hr
    by_cases hlt : k < l.length
    · obtain ⟨b, o, rfl, hc, hd⟩ := (h.ext hE).at k hlt
      have hC := HF.out wr (.agg #[.int .i64 l[k].1, .int .i64 l[k].2]) l[k] hE (List.getElem_mem hlt) rfl
      by_cases hq : q l[k]
      · have HC := Lib.hid (RetE.bt hq hC)
        have HQ := Lib.hid hq
        clear hC hq
        go_wp2_with fail
        refine HC.out.mono ?_
        rintro e W2 ⟨rfl, hE2⟩
        go_wp2
        go_ret
        exact ⟨k, rfl, ⟨fun _ => ⟨_, List.getElem_mem hlt, HQ.out⟩, fun _ => by omega⟩, hE.trans hE2⟩
      · have HC := Lib.hid (RetE.bf hq hC)
        have HQ := Lib.hid hq
        clear hC hq
        go_wp2_with fail
        refine HC.out.mono ?_
        rintro e W2 ⟨rfl, hE2⟩
        go_wp2
        go_roundw
        case rel => exact ⟨k + 1, by omega, by go_num, by
          rw [List.take_succ_eq_append_getElem hlt]
          intro x hx
          rcases List.mem_append.1 hx with h1 | h1
          · exact HR.out x h1
          · rw [List.mem_singleton.1 h1]; exact HQ.out, hE.trans hE2⟩
        case measure => simp [intOf]; omega
    · go_wp2
      go_ret
      exact ⟨-1, rfl, ⟨fun h => absurd h (by decide), fun ⟨x, hx, hqx⟩ => absurd hqx (HR.out x (by rwa [List.take_of_length_le (by omega)]))⟩, hE⟩

set_option maxHeartbeats 400000 in
theorem ContainsFuncInt (p : Option Addr) (l : List Int) (c g : Nat) (cap : Array Value) (w : World) (q : Int → Prop) (hl : l.length ≤ 100000) (h : IntsAt w p l) (ha : Asks IntR g cap w l q) :
    Calls Tryz.prog 65 #[.slice p l.length c, .func (.func g) #[] cap] w (RetE (.bool (bP (∃ x ∈ l, q x))) w) := by
  have HC := Lib.hid (IndexFuncInt p l c g cap w q hl h ha)
  clear ha
  go_enter Tryz.func65, Tryz.ntmps65
  go_wp2_with fail
  refine HC.out.mono ?_
  rintro e W2 ⟨n, rfl, hn, hE2⟩
  have HN := Lib.hid hn
  clear hn
  go_wp2
  go_ret
  exact RetE.of hE2 (by rw [← HN.out]; simp)

set_option maxHeartbeats 400000 in
theorem ContainsFuncLists (p : Option Addr) (l : List (List Int)) (c g : Nat) (cap : Array Value) (w : World) (q : List Int → Prop) (hl : l.length ≤ 100000) (h : ListsAt w p l) (ha : Asks IntsV g cap w l q) :
    Calls Tryz.prog 71 #[.slice p l.length c, .func (.func g) #[] cap] w (RetE (.bool (bP (∃ x ∈ l, q x))) w) := by
  have HC := Lib.hid (IndexFuncLists p l c g cap w q hl h ha)
  clear ha
  go_enter Tryz.func71, Tryz.ntmps71
  go_wp2_with fail
  refine HC.out.mono ?_
  rintro e W2 ⟨n, rfl, hn, hE2⟩
  have HN := Lib.hid hn
  clear hn
  go_wp2
  go_ret
  exact RetE.of hE2 (by rw [← HN.out]; simp)

set_option maxHeartbeats 400000 in
theorem ContainsFuncKeeps (p : Option Addr) (l : List (Int × Int)) (c g : Nat) (cap : Array Value) (w : World) (q : Int × Int → Prop) (hl : l.length ≤ 100000) (h : PairsAt w p l) (ha : Asks PairV g cap w l q) :
    Calls Tryz.prog 72 #[.slice p l.length c, .func (.func g) #[] cap] w (RetE (.bool (bP (∃ x ∈ l, q x))) w) := by
  have HC := Lib.hid (IndexFuncKeeps p l c g cap w q hl h ha)
  clear ha
  go_enter Tryz.func72, Tryz.ntmps72
  go_wp2_with fail
  refine HC.out.mono ?_
  rintro e W2 ⟨n, rfl, hn, hE2⟩
  have HN := Lib.hid hn
  clear hn
  go_wp2
  go_ret
  exact RetE.of hE2 (by rw [← HN.out]; simp)
end Go.Proofs.YtppncdbhebgcaaaGreatDoor.Sw7
namespace Go.Proofs.YtppncdbhebgcaaaGreatDoor.Sw7
open Go.RowKit

set_option maxHeartbeats 800000 in
theorem IndexInt (p : Option Addr) (l : List Int) (c : Nat) (x : Int) (w : World) (hl : l.length ≤ 100000) (h : IntsAt w p l) :
    Calls Tryz.prog 89 #[.slice p l.length c, .int .i64 x] w fun e w' => ∃ n : Int, e = .returned (.int .i64 n) ∧ (0 ≤ n ↔ x ∈ l) ∧ Qt w w' := by
  go_enter Tryz.func89, Tryz.ntmps89
  go_wp2
  go_loopw [8] (fun i wr => ∃ k : Nat, k ≤ l.length ∧ i = .int .i64 k ∧ (∀ y ∈ l.take k, ¬x = y) ∧ Qt w wr) (fun i _ => l.length - (intOf i).toNat)
  case atStart => exact ⟨0, by omega, rfl, by simp, Qt.refl _⟩
  case round =>
    obtain ⟨k, hk, rfl, hr, hQ⟩ := hrel
    have HR := Lib.hid hr
    clear hr
    by_cases hlt : k < l.length
    · obtain ⟨b, o, rfl, hc⟩ := (h.ext hQ.ext).at k hlt
      by_cases hq : x = l[k]
      · have HQ := Lib.hid hq
        have hq' : (x == l[k]) = true := by simpa using hq
        clear hq
        go_wp2
        try (go_quiet (fail))
        go_wp2
        go_ret
        exact ⟨k, rfl, ⟨fun _ => by rw [HQ.out]; exact List.getElem_mem hlt, fun _ => by omega⟩, (by repeat (first | exact Qt.refl _ | assumption | refine Qt.drewN ?_ _ | refine Qt.drew ?_))⟩
      · have HQ := Lib.hid hq
        have hq' : (x == l[k]) = false := by simpa using hq
        clear hq
        go_wp2
        try (go_quiet (fail))
        go_wp2
        go_roundw
        case rel => exact ⟨k + 1, by omega, by go_num, by
          rw [List.take_succ_eq_append_getElem hlt]
          intro y hy
          rcases List.mem_append.1 hy with h1 | h1
          · exact HR.out y h1
          · rw [List.mem_singleton.1 h1]; exact HQ.out, (by repeat (first | exact Qt.refl _ | assumption | refine Qt.drewN ?_ _ | refine Qt.drew ?_))⟩
        case measure => simp [intOf]; omega
    · go_wp2
      go_ret
      exact ⟨-1, rfl, ⟨fun h => absurd h (by decide), fun hx => absurd rfl (HR.out x (by rwa [List.take_of_length_le (by omega)]))⟩, (by repeat (first | exact Qt.refl _ | assumption | refine Qt.drewN ?_ _ | refine Qt.drew ?_))⟩

set_option maxHeartbeats 400000 in
theorem ContainsInt (p : Option Addr) (l : List Int) (c : Nat) (x : Int) (w : World) (hl : l.length ≤ 100000) (h : IntsAt w p l) :
    Calls Tryz.prog 70 #[.slice p l.length c, .int .i64 x] w (RetQ (.bool (bP (x ∈ l))) w) := by
  have HC := Lib.hid (IndexInt p l c x w hl h)
  go_enter Tryz.func70, Tryz.ntmps70
  go_wp2_with fail
  refine HC.out.mono ?_
  rintro e W2 ⟨n, rfl, hn, hE2⟩
  have HN := Lib.hid hn
  clear hn
  go_wp2
  go_ret
  exact RetQ.of hE2 (by rw [← HN.out]; simp)

/-! the closures of Check -/
set_option maxHeartbeats 400000 in
theorem badStock07 (n : Int) (w : World) : Calls Tryz.prog 62 #[.int .i64 n] w (RetE (.bool (bP (¬(0 ≤ n ∧ n ≤ 9)))) w) := by
  by_cases h : 0 ≤ n ∧ n ≤ 9
  · have HC := Lib.hid (RetS.bt h (within07s n 0 9 w))
    have H := Lib.hid h
    clear h
    go_enter Tryz.func62, Tryz.ntmps62
    go_wp2_with (go_at_call 63; refine HC.out.mono ?_; rintro e w' ⟨rfl, rfl⟩)
    go_ret
    exact RetE.ff (Ext.refl _) (fun hn => hn H.out)
  · have HC := Lib.hid (RetS.bf h (within07s n 0 9 w))
    have H := Lib.hid h
    clear h
    go_enter Tryz.func62, Tryz.ntmps62
    go_wp2_with (go_at_call 63; refine HC.out.mono ?_; rintro e w' ⟨rfl, rfl⟩)
    go_ret
    exact RetE.tt (Ext.refl _) H.out
set_option maxHeartbeats 400000 in
theorem badCell07 (n : Int) (w : World) : Calls Tryz.prog 66 #[.int .i64 n] w (RetE (.bool (bP (¬(0 ≤ n ∧ n ≤ 999)))) w) := by
  by_cases h : 0 ≤ n ∧ n ≤ 999
  · have HC := Lib.hid (RetS.bt h (within07s n 0 999 w))
    have H := Lib.hid h
    clear h
    go_enter Tryz.func66, Tryz.ntmps66
    go_wp2_with (go_at_call 63; refine HC.out.mono ?_; rintro e w' ⟨rfl, rfl⟩)
    go_ret
    exact RetE.ff (Ext.refl _) (fun hn => hn H.out)
  · have HC := Lib.hid (RetS.bf h (within07s n 0 999 w))
    have H := Lib.hid h
    clear h
    go_enter Tryz.func66, Tryz.ntmps66
    go_wp2_with (go_at_call 63; refine HC.out.mono ?_; rintro e w' ⟨rfl, rfl⟩)
    go_ret
    exact RetE.tt (Ext.refl _) H.out

def BadEarn (boxes : Nat) (l : List Int) : Prop := l.length ≠ boxes ∨ ∃ n ∈ l, ¬(0 ≤ n ∧ n ≤ 999)
set_option maxHeartbeats 400000 in
theorem badEarn07 (p : Option Addr) (l : List Int) (c boxes B : Nat) (w : World) (hl : l.length ≤ 100000) (h : IntsAt w p l) (hb : w.cell? ⟨B, 0, none⟩ = some (.int .i64 boxes)) :
    Calls Tryz.prog 64 #[.slice p l.length c, .pointer (some ⟨B, 0, none⟩)] w (RetE (.bool (bP (BadEarn boxes l))) w) := by
  by_cases hlen : l.length = boxes
  · have HL := Lib.hid hlen
    have hne : ((l.length : Int) != (boxes : Int)) = false := by simp [hlen]
    clear hlen
    have hC := ContainsFuncInt p l c 66 #[] w (fun n => ¬(0 ≤ n ∧ n ≤ 999)) hl h ⟨Tryz.call66, fun w' v x _ _ hv => by rw [show v = .int .i64 x from hv]; exact badCell07 x w'⟩
    have HC := Lib.hid hC
    clear hC
    go_enter Tryz.func64, Tryz.ntmps64
    go_wp2_with fail
    refine HC.out.mono ?_
    rintro e W2 ⟨rfl, hE2⟩
    by_cases hq : ∃ n ∈ l, ¬(0 ≤ n ∧ n ≤ 999)
    · rw [bP_t hq]
      have HQ := Lib.hid hq
      clear hq
      go_wp2
      go_ret
      exact RetE.tt hE2 (.inr HQ.out)
    · rw [bP_f hq]
      have HQ := Lib.hid hq
      clear hq
      go_wp2
      go_ret
      exact RetE.ff hE2 (fun h => h.elim (fun h => h HL.out) HQ.out)
  · have HL := Lib.hid hlen
    have hne : ((l.length : Int) != (boxes : Int)) = true := by simp; omega
    clear hlen
    go_enter Tryz.func64, Tryz.ntmps64
    go_wp2
    go_ret
    exact RetE.tt (Ext.refl _) (.inl HL.out)

def BadBox (t : Nat) (l : List Int) : Prop := ¬Rises l 0 ((t : Int) - 1) ∨ 3 < l.length
set_option maxHeartbeats 400000 in
theorem badBox07 (p : Option Addr) (l : List Int) (c t B : Nat) (w : World) (hl : l.length ≤ 100000) (h : IntsAt w p l) (hb : w.cell? ⟨B, 0, none⟩ = some (.int .i64 t)) (ht : t ≤ 6) :
    Calls Tryz.prog 67 #[.slice p l.length c, .pointer (some ⟨B, 0, none⟩)] w (RetE (.bool (bP (BadBox t l))) w) := by
  have hC := parse07 p l c t w hl ht h
  by_cases hr : Rises l 0 ((t : Int) - 1)
  · rw [parseV_t hr] at hC
    have HR := Lib.hid hr
    have HC := Lib.hid hC
    clear hr hC
    go_enter Tryz.func67, Tryz.ntmps67
    go_wp2_with (go_at_call 68; refine HC.out.mono ?_; rintro e w' ⟨rfl, rfl⟩)
    go_ret
    refine RetE.of (Ext.refl _) ?_
    unfold BadBox
    have := HR.out
    simp only [decide_eq_true_eq, this, not_true_eq_false, false_or]
    omega
  · rw [parseV_f hr] at hC
    have HR := Lib.hid hr
    have HC := Lib.hid hC
    clear hr hC
    go_enter Tryz.func67, Tryz.ntmps67
    go_wp2_with (go_at_call 68; refine HC.out.mono ?_; rintro e w' ⟨rfl, rfl⟩)
    go_ret
    exact RetE.tt (Ext.refl _) (.inl HR.out)

def BadKeep (S : Swap) (k : Int × Int) : Prop := ¬(0 ≤ k.1 ∧ k.1 ≤ (S.boxes.length : Int) - 1) ∨ k.2 ∉ S.boxes.getD k.1.toNat []
set_option maxHeartbeats 800000 in
theorem badKeep07 (K : Int × Int) (p0 : Option Addr) (c0 B D : Nat) (S : Swap) (w : World) (h : ListsAt w p0 S.boxes) (hl : S.boxes.length ≤ 100000) (hr : ∀ i (h : i < S.boxes.length), S.boxes[i].length ≤ 100000)
    (hb : w.cell? ⟨B, 0, none⟩ = some (.int .i64 S.boxes.length)) (hd : w.cell? ⟨D, 0, none⟩ = some (.slice p0 S.boxes.length c0)) :
    Calls Tryz.prog 69 #[.agg #[.int .i64 K.1, .int .i64 K.2], .pointer (some ⟨B, 0, none⟩), .pointer (some ⟨D, 0, none⟩)] w (RetE (.bool (bP (BadKeep S K))) w) := by
  go_enter Tryz.func69, Tryz.ntmps69
  go_upto_region 1 with (fail)
  have hn := heap_new w (.cells #[.int .i64 K.1, .int .i64 K.2] 116)
  obtain ⟨W, hW⟩ : ∃ W, W = w.alloc (.cells #[.int .i64 K.1, .int .i64 K.2] 116) := ⟨_, rfl⟩
  have hE : Ext w W := by rw [hW]; exact Ext.alloc (Ext.refl w) _
  rw [← hW] at hn ⊢
  have n0 := cell_of_heap hn 0
  have n1 := cell_of_heap hn 1
  simp at n0 n1
  have hb1 := hE.cell hb
  have hd1 := hE.cell hd
  have hL := h.ext hE
  clear hW hn hb hd h
  by_cases hk : 0 ≤ K.1 ∧ K.1 ≤ (S.boxes.length : Int) - 1
  · obtain ⟨kb, hkb⟩ := Int.eq_ofNat_of_zero_le hk.1
    have hlt : kb < S.boxes.length := by omega
    obtain ⟨b, o, q, c, rfl, hc, hq⟩ := hL.at kb hlt
    have hgd : S.boxes.getD K.1.toNat [] = S.boxes[kb] := by rw [hkb, Int.toNat_natCast]; simp [List.getD, hlt]
    have hrow := hr kb hlt
    have HK := Lib.hid hk
    rw [hkb] at n0 hk
    by_cases hin : K.2 ∈ S.boxes[kb]
    · have HIN := Lib.hid hin
      have HKB := Lib.hid hkb
      have HGD := Lib.hid hgd
      have HW := Lib.hid (fun n => RetS.q (RetS.bt hk (within07s kb 0 ((S.boxes.length : Int) - 1) (W.drewN n))))
      have HC := Lib.hid (fun n => RetQ.bt hin (ContainsInt q S.boxes[kb] c K.2 (W.drewN n) hrow hq))
      clear hk hkb hgd hin hr
      go_quiet ((first | (go_at_call 63; exact RetQ.quiet (HW.out _)) | (go_at_call 70; exact RetQ.quiet (HC.out _))))
      go_wp2
      go_ret
      refine RetE.ff (hE.trans (Qt.ext (by repeat (first | exact Qt.refl _ | assumption | refine Qt.drewN ?_ _ | refine Qt.drew ?_)))) ?_
      rintro (h | h)
      · exact h HK.out
      · rw [HGD.out] at h; exact h HIN.out
    · have HIN := Lib.hid hin
      have HKB := Lib.hid hkb
      have HGD := Lib.hid hgd
      have HW := Lib.hid (fun n => RetS.q (RetS.bt hk (within07s kb 0 ((S.boxes.length : Int) - 1) (W.drewN n))))
      have HC := Lib.hid (fun n => RetQ.bf hin (ContainsInt q S.boxes[kb] c K.2 (W.drewN n) hrow hq))
      clear hk hkb hgd hin hr
      go_quiet ((first | (go_at_call 63; exact RetQ.quiet (HW.out _)) | (go_at_call 70; exact RetQ.quiet (HC.out _))))
      go_wp2
      go_ret
      refine RetE.tt (hE.trans (Qt.ext (by repeat (first | exact Qt.refl _ | assumption | refine Qt.drewN ?_ _ | refine Qt.drew ?_)))) (Or.inr ?_)
      rw [HGD.out]; exact HIN.out
  · have HK := Lib.hid hk
    have HW := Lib.hid (fun n => RetS.q (RetS.bf hk (within07s K.1 0 ((S.boxes.length : Int) - 1) (W.drewN n))))
    clear hk hr
    go_quiet ((go_at_call 63; exact RetQ.quiet (HW.out _)))
    go_wp2
    go_ret
    exact RetE.tt (hE.trans (Qt.ext (by repeat (first | exact Qt.refl _ | assumption | refine Qt.drewN ?_ _ | refine Qt.drew ?_)))) (Or.inl HK.out)

/-- no list is too long to be walked -/
structure Modest (S : Swap) : Prop where
  boxes : S.boxes.length ≤ 100000
  box : ∀ i (h : i < S.boxes.length), S.boxes[i].length ≤ 100000
  stock : S.stock.length ≤ 100000
  earn : S.earn.length ≤ 100000
  row : ∀ i (h : i < S.earn.length), S.earn[i].length ≤ 100000
  keeps : S.keeps.length ≤ 100000

/-- what Check returns -/
noncomputable def chk (S : Swap) : Int := if bP (Valid S) = true then 0 else 70
theorem chk_t {S : Swap} (h : Valid S) : chk S = 0 := by simp [chk, bP_t h]
theorem chk_f {S : Swap} (h : ¬Valid S) : chk S = 70 := by simp [chk, bP_f h]

theorem chk_70 {S : Swap} {v : Value} (h : ¬Valid S) (e : v = .int .i64 70) : v = .int .i64 (chk S) := by rw [chk_f h, e]
theorem chk_0 {S : Swap} {v : Value} (h : Valid S) (e : v = .int .i64 0) : v = .int .i64 (chk S) := by rw [chk_t h, e]
theorem getD_of_lt {α : Type} (l : List α) (d : α) (i : Nat) (h : i < l.length) : l.getD i d = l[i] := by simp [List.getD, h]

set_option maxHeartbeats 1600000 in
theorem Check07 (v : Value) (S : Swap) (w : World) (hv : SwapV w v S) (hM : Modest S) : Calls Tryz.prog 38 #[v] w (RetE (.int .i64 (chk S)) w) := by
  obtain ⟨p0, c0, p1, c1, p2, c2, p3, c3, rfl, h0, h1, h2, h3⟩ := hv
  have m0 := hM.boxes
  have m1 := hM.stock
  have m2 := hM.earn
  have m3 := hM.keeps
  go_enter Tryz.func38, Tryz.ntmps38
  go_upto_region 1 with (fail)
  go_cut [3, 4] from 9 (fun a b wc => ∃ B3 B4, a = .pointer (some ⟨B3, 0, none⟩) ∧ b = .pointer (some ⟨B4, 0, none⟩) ∧ wc.cell? ⟨B3, 0, none⟩ = some (.int .i64 S.stock.length) ∧ wc.cell? ⟨B4, 0, none⟩ = some (.int .i64 S.boxes.length) ∧
      wc.heap[w.heap.size]? = some (.cells #[.slice p0 S.boxes.length c0, .slice p1 S.stock.length c1, .slice p2 S.earn.length c2, .slice p3 S.keeps.length c3, .int .i64 S.changes] 33) ∧ Ext w wc)
  case first =>
    go_region
    all_goals
      go_wp2
      go_meet
      case rel =>
        refine ⟨_, _, rfl, rfl, ?_, ?_, ?_, ?_⟩
        · go_simp
        · go_simp
        · refine heap_drew ?_
          rw [Below.heap_alloc _ _ _ (by simp; omega), Below.heap_alloc _ _ _ (by simp), heap_new]
        · exact Ext.drew (Ext.alloc (Ext.alloc (Ext.alloc (Ext.refl w) _) _) _)
  case rest =>
    obtain ⟨B3, B4, rfl, rfl, hb3, hb4, hsb, hE⟩ := hcut
    have q0 := cell_of_heap hsb 0
    have q1 := cell_of_heap hsb 1
    have q2 := cell_of_heap hsb 2
    have q3 := cell_of_heap hsb 3
    have q4 := cell_of_heap hsb 4
    simp at q0 q1 q2 q3 q4
    have k0 := h0.ext hE
    have k1 := h1.ext hE
    have k2 := h2.ext hE
    have k3 := h3.ext hE
    clear hsb h0 h1 h2 h3
    by_cases hA : 3 < S.boxes.length
    · go_wp2
      go_ret
      exact RetE.fin hE (chk_70 (fun h => by have := h.boxes; omega) rfl)
    · by_cases hB : 6 < S.stock.length
      · go_wp2
        go_ret
        exact RetE.fin hE (chk_70 (fun h => by have := h.stock; omega) rfl)
      · by_cases hC : S.earn.length = S.stock.length
        · have HC := Lib.hid hC
          have hC' : ((S.earn.length : Int) != (S.stock.length : Int)) = false := by simp [hC]
          clear hC
          by_cases hD : 4 < S.keeps.length
          · go_wp2
            go_ret
            exact RetE.fin hE (chk_70 (fun h => by have := h.keeps; omega) rfl)
          · by_cases hG : 0 ≤ S.changes ∧ S.changes ≤ 3
            · have HG := Lib.hid hG
              have HGC := Lib.hid (RetS.bt hG (within07s S.changes 0 3 wc))
              clear hG
              have hstk := ContainsFuncInt p1 S.stock c1 62 #[] wc (fun n => ¬(0 ≤ n ∧ n ≤ 9)) m1 k1 ⟨Tryz.call62, fun w' v x _ _ hv => by rw [show v = .int .i64 x from hv]; exact badStock07 x w'⟩
              have HSTK := Lib.hid hstk
              clear hstk
              go_wp2_with (go_at_call 63; refine HGC.out.mono ?_; rintro e w' ⟨rfl, rfl⟩)
              refine HSTK.out.mono ?_
              rintro e W2 ⟨rfl, hE2⟩
              replace q0 := hE2.cell q0
              replace q2 := hE2.cell q2
              replace q3 := hE2.cell q3
              replace hb3 := hE2.cell hb3
              replace hb4 := hE2.cell hb4
              replace k0 := k0.ext hE2
              replace k2 := k2.ext hE2
              replace k3 := k3.ext hE2
              by_cases hF : ∃ x ∈ S.stock, ¬(0 ≤ x ∧ x ≤ 9)
              · rw [bP_t hF]
                have HF := Lib.hid hF
                clear hF
                go_wp2
                go_ret
                refine RetE.fin (hE.trans hE2) (chk_70 (fun h => ?_) rfl)
                obtain ⟨x, hx, hn⟩ := HF.out
                obtain ⟨i, hi, rfl⟩ := List.getElem_of_mem hx
                exact hn (h.st i hi)
              · rw [bP_f hF]
                have HF := Lib.hid hF
                clear hF
                have hern := ContainsFuncLists p2 S.earn c2 64 #[.pointer (some ⟨B4, 0, none⟩)] W2 (BadEarn S.boxes.length) m2 k2 ⟨Tryz.call64, fun w' v x hw' hx hv => by
                  obtain ⟨q, c, rfl, hq⟩ := hv
                  obtain ⟨i, hi, rfl⟩ := List.getElem_of_mem hx
                  exact badEarn07 q _ c S.boxes.length B4 w' (hM.row i hi) hq (hw'.cell hb4)⟩
                have HERN := Lib.hid hern
                clear hern
                go_wp2_with fail
                refine HERN.out.mono ?_
                rintro e W3 ⟨rfl, hE3⟩
                replace q0 := hE3.cell q0
                replace q3 := hE3.cell q3
                replace hb3 := hE3.cell hb3
                replace hb4 := hE3.cell hb4
                replace k0 := k0.ext hE3
                replace k3 := k3.ext hE3
                by_cases hH : ∃ x ∈ S.earn, BadEarn S.boxes.length x
                · rw [bP_t hH]
                  have HH := Lib.hid hH
                  clear hH
                  go_wp2
                  go_ret
                  refine RetE.fin ((hE.trans hE2).trans hE3) (chk_70 (fun h => ?_) rfl)
                  obtain ⟨x, hx, hn⟩ := HH.out
                  obtain ⟨i, hi, rfl⟩ := List.getElem_of_mem hx
                  rcases hn with hn | ⟨y, hy, hn⟩
                  · exact hn (h.row i hi)
                  · obtain ⟨k, hk, rfl⟩ := List.getElem_of_mem hy
                    exact hn (h.cell i hi k hk)
                · rw [bP_f hH]
                  have HH := Lib.hid hH
                  clear hH
                  have hbox := ContainsFuncLists p0 S.boxes c0 67 #[.pointer (some ⟨B3, 0, none⟩)] W3 (BadBox S.stock.length) m0 k0 ⟨Tryz.call67, fun w' v x hw' hx hv => by
                    obtain ⟨q, c, rfl, hq⟩ := hv
                    obtain ⟨i, hi, rfl⟩ := List.getElem_of_mem hx
                    exact badBox07 q _ c S.stock.length B3 w' (hM.box i hi) hq (hw'.cell hb3) (by omega)⟩
                  have HBOX := Lib.hid hbox
                  clear hbox
                  go_wp2_with fail
                  refine HBOX.out.mono ?_
                  rintro e W4 ⟨rfl, hE4⟩
                  replace q0 := hE4.cell q0
                  replace q3 := hE4.cell q3
                  replace hb4 := hE4.cell hb4
                  replace k0 := k0.ext hE4
                  replace k3 := k3.ext hE4
                  by_cases hI : ∃ x ∈ S.boxes, BadBox S.stock.length x
                  · rw [bP_t hI]
                    have HI := Lib.hid hI
                    clear hI
                    go_wp2
                    go_ret
                    refine RetE.fin (((hE.trans hE2).trans hE3).trans hE4) (chk_70 (fun h => ?_) rfl)
                    obtain ⟨x, hx, hn⟩ := HI.out
                    obtain ⟨i, hi, rfl⟩ := List.getElem_of_mem hx
                    rcases hn with hn | hn
                    · exact hn (h.box i hi).2
                    · have := (h.box i hi).1
                      omega
                  · rw [bP_f hI]
                    have HI := Lib.hid hI
                    clear hI
                    have hkp := ContainsFuncKeeps p3 S.keeps c3 69 #[.pointer (some ⟨B4, 0, none⟩), .pointer (some ⟨w.heap.size, 0, none⟩)] W4 (BadKeep S) m3 k3 ⟨Tryz.call69, fun w' v x hw' hx hv => by
                      rw [show v = _ from hv]
                      exact badKeep07 x p0 c0 B4 w.heap.size S w' (k0.ext hw') m0 hM.box (hw'.cell hb4) (hw'.cell q0)⟩
                    have HKP := Lib.hid hkp
                    clear hkp
                    go_wp2_with fail
                    refine HKP.out.mono ?_
                    rintro e W5 ⟨rfl, hE5⟩
                    by_cases hJ : ∃ x ∈ S.keeps, BadKeep S x
                    · rw [bP_t hJ]
                      have HJ := Lib.hid hJ
                      clear hJ
                      go_wp2
                      go_ret
                      refine RetE.fin ((((hE.trans hE2).trans hE3).trans hE4).trans hE5) (chk_70 (fun h => ?_) rfl)
                      obtain ⟨x, hx, hn⟩ := HJ.out
                      obtain ⟨i, hi, rfl⟩ := List.getElem_of_mem hx
                      obtain ⟨g1, g2, g3⟩ := h.keep i hi
                      rcases hn with hn | hn
                      · exact hn ⟨g1, g2⟩
                      · exact hn g3
                    · rw [bP_f hJ]
                      have HJ := Lib.hid hJ
                      clear hJ
                      go_wp2
                      go_ret
                      refine RetE.fin ((((hE.trans hE2).trans hE3).trans hE4).trans hE5) (chk_0 ?_ rfl)
                      have no {α : Type} {l : List α} {p : α → Prop} (h : ¬∃ x ∈ l, p x) (i : Nat) (hi : i < l.length) : ¬p l[i] := fun hp => h ⟨_, List.getElem_mem hi, hp⟩
                      have e1 : ∀ i (h : i < S.earn.length), ¬BadEarn S.boxes.length S.earn[i] := fun i h => no HH.out i h
                      refine ⟨by omega, by omega, HC.out, by omega, HG.out, fun i hi => ?_, fun i hi => ?_, fun i hi => ?_, fun i hi k hk => ?_, fun i hi => ?_⟩
                      · have := no HI.out i hi
                        unfold BadBox at this
                        exact ⟨by omega, Classical.byContradiction fun h => this (Or.inl h)⟩
                      · exact Classical.byContradiction fun h => no HF.out i hi h
                      · exact Classical.byContradiction fun h => e1 i hi (Or.inl h)
                      · exact Classical.byContradiction fun h => e1 i hi (Or.inr ⟨_, List.getElem_mem hk, h⟩)
                      · have := no HJ.out i hi
                        unfold BadKeep at this
                        have g : 0 ≤ S.keeps[i].1 ∧ S.keeps[i].1 ≤ (S.boxes.length : Int) - 1 := Classical.byContradiction fun h => this (Or.inl h)
                        exact ⟨g.1, g.2, Classical.byContradiction fun h => this (Or.inr h)⟩
            · have HG := Lib.hid hG
              have HGC := Lib.hid (RetS.bf hG (within07s S.changes 0 3 wc))
              clear hG
              go_wp2_with (go_at_call 63; refine HGC.out.mono ?_; rintro e w' ⟨rfl, rfl⟩)
              go_ret
              exact RetE.fin hE (chk_70 (fun h => HG.out h.ch) rfl)
        · have HC := Lib.hid hC
          have hC' : ((S.earn.length : Int) != (S.stock.length : Int)) = true := by simp; omega
          clear hC
          go_wp2
          go_ret
          exact RetE.fin hE (chk_70 (fun h => HC.out h.earn) rfl)
end Go.Proofs.YtppncdbhebgcaaaGreatDoor.Sw7
namespace Go.Proofs.YtppncdbhebgcaaaGreatDoor.Sw7
open Go.RowKit

theorem openV_ok {S : Swap} (hS : Valid S) : VOK (openV S) := by
  refine ⟨hS.boxes, hS.stock, hS.earn, hS.row, hS.cell, ⟨hS.ch.1, by have := hS.ch.2; show S.changes ≤ 9; omega⟩, fun k _ => nowTo_lt hS _ k, fun k _ => ?_, fun k _ => ?_, fun i h => (hS.box i h).1⟩
  · have := keepTo_lt hS S.keeps.length (Nat.le_refl _) k
    rwa [List.take_length] at this
  · show 0 ≤ copiesTo S (nowTo S S.boxes.length) S.stock.length k ∧ copiesTo S (nowTo S S.boxes.length) S.stock.length k ≤ 99
    unfold copiesTo
    have hc := cntB_le (nowTo S S.boxes.length) k 3
    split
    · rename_i hk
      have := hS.st k hk
      rw [getD_of_lt _ _ _ hk]
      omega
    · omega

/-- all plans of a visit at work -/
noncomputable def allP (V : Visit) : List (Nat → Nat) := plansL V V.S.boxes.length (fun _ => 0) 0
noncomputable def bestN (V : Visit) : Int := (bestOf V (allP V)).1

theorem modest_of_valid {S : Swap} (hS : Valid S) : Modest S := by
  refine ⟨by have := hS.boxes; omega, fun i h => by have := (hS.box i h).1; omega, by have := hS.stock; omega, by have := hS.earn; have := hS.stock; omega, fun i h => by rw [hS.row i h]; have := hS.boxes; omega, by have := hS.keeps; omega⟩

/-- a function's answer where the visit may be bad -/
noncomputable def ansV (S : Swap) (n : Int) : Value := .tuple #[.int .i64 (if bP (Valid S) = true then n else 0), .int .i64 (chk S)]
theorem ansV_t {S : Swap} {n : Int} (h : Valid S) : ansV S n = .tuple #[.int .i64 n, .int .i64 0] := by simp [ansV, bP_t h, chk_t h]
theorem ansV_f {S : Swap} {n : Int} (h : ¬Valid S) : ansV S n = .tuple #[.int .i64 0, .int .i64 70] := by simp [ansV, bP_f h, chk_f h]

theorem SwapV.cells {w : World} {v : Value} {S : Swap} (h : SwapV w v S) : ∃ a b c d e, v = .agg #[a, b, c, d, e] := by
  obtain ⟨p0, c0, p1, c1, p2, c2, p3, c3, rfl, -⟩ := h
  exact ⟨_, _, _, _, _, rfl⟩

set_option maxHeartbeats 800000 in
theorem Best07 (v : Value) (S : Swap) (w : World) (hv : SwapV w v S) (hM : Modest S) : Calls Tryz.prog 11 #[v] w (RetE (ansV S (bestN (openV S))) w) := by
  have hC := fun w' (h : Ext w w') => Check07 v S w' (SwapV.mono _ _ _ _ h hv) hM
  obtain ⟨p0, c0, p1, c1, p2, c2, p3, c3, rfl, h0, h1, h2, h3⟩ := id hv
  have HC := Lib.hid hC
  clear hC
  by_cases hS : Valid S
  · rw [ansV_t hS]
    have HS := Lib.hid hS
    have HC2 := Lib.hid (fun w' h => (HC.out w' h).mono (R' := RetE (.int .i64 0) w') (fun e w'' hh => by rw [← chk_t hS]; exact hh))
    clear HC hS
    go_enter Tryz.func11, Tryz.ntmps11
    go_upto_region 1 with (fail)
    have hn := heap_new w (.cells #[.slice p0 S.boxes.length c0, .slice p1 S.stock.length c1, .slice p2 S.earn.length c2, .slice p3 S.keeps.length c3, .int .i64 S.changes] 33)
    obtain ⟨W, hW⟩ : ∃ W, W = w.alloc (.cells #[.slice p0 S.boxes.length c0, .slice p1 S.stock.length c1, .slice p2 S.earn.length c2, .slice p3 S.keeps.length c3, .int .i64 S.changes] 33) := ⟨_, rfl⟩
    have hE : Ext w W := by rw [hW]; exact Ext.alloc (Ext.refl w) _
    rw [← hW] at hn ⊢
    have q0 := ExtW.cell (v := .slice p0 S.boxes.length c0) (cell_of_heap hn 0)
    have q1 := ExtW.cell (v := .slice p1 S.stock.length c1) (cell_of_heap hn 1)
    have q2 := ExtW.cell (v := .slice p2 S.earn.length c2) (cell_of_heap hn 2)
    have q3 := ExtW.cell (v := .slice p3 S.keeps.length c3) (cell_of_heap hn 3)
    have q4 := ExtW.cell (v := .int .i64 S.changes) (cell_of_heap hn 4)
    obtain ⟨x0, hx0⟩ := ExtW.of (Ext.refl W)
    have HV := Lib.hid hv
    clear hW hn hv
    conv => arg 5; rw [hx0]
    go_wp2_with fail
    refine (ExtW.call (HC2.out _ (hE.trans x0.h))).mono ?_
    rintro e _ ⟨rfl, x1, rfl⟩
    go_wp2_with fail
    refine (open07 _ S x1.w (SwapV.mono _ _ _ _ (hE.trans x1.h) HV.out) HS.out).mono ?_
    rintro e W2 ⟨b, rfl, hvis, hE2, -⟩
    go_wp2_with fail
    have hB := best07 (openV S) (openV_ok HS.out) b W2 hvis
    obtain ⟨mp, hmp⟩ : ∃ mp, mp = bestOf (openV S) (plansL (openV S) (openV S).S.boxes.length (fun _ => 0) 0) := ⟨_, rfl⟩
    rw [← hmp] at hB
    unfold pl3 at hB
    have HMP := Lib.hid hmp
    clear hmp
    refine hB.mono ?_
    rintro e W3 ⟨rfl, hE3⟩
    clear hB
    go_wp2
    go_ret2
    refine RetE.fin ?_ (by rw [HMP.out]; rfl)
    repeat (with_reducible (first | refine Ext.drew ?_ | refine Ext.alloc ?_ _ | exact ((hE.trans x1.h).trans hE2).trans hE3))
  · rw [ansV_f hS]
    have HC2 := Lib.hid (fun w' h => (HC.out w' h).mono (R' := RetE (.int .i64 70) w') (fun e w'' hh => by rw [← chk_f hS]; exact hh))
    clear HC hS
    go_enter Tryz.func11, Tryz.ntmps11
    go_wp2_with fail
    refine (HC2.out _ (Ext.alloc (Ext.refl w) _)).mono ?_
    rintro e W2 ⟨rfl, hE2⟩
    go_wp2
    go_ret2
    exact RetE.fin ((Ext.alloc (Ext.refl w) _).trans hE2) rfl
end Go.Proofs.YtppncdbhebgcaaaGreatDoor.Sw7
namespace Go.Proofs.YtppncdbhebgcaaaGreatDoor.Sw7
open Go.RowKit
attribute [local go_sem] Oper.semAt_some

theorem heap_new1 (w : World) (o1 o2 : Obj) : ((w.alloc o1).alloc o2).heap[w.heap.size]? = some o1 := by
  rw [Below.heap_alloc _ _ _ (by simp), heap_new]
theorem heap_new2 (w : World) (o1 o2 : Obj) : ((w.alloc o1).alloc o2).heap[w.heap.size + 1]? = some o2 :=
  (by simp : (w.alloc o1).heap.size = w.heap.size + 1) ▸ heap_new _ _

theorem noMarks_ret {P : Program} {fn : Func} {R : Ending → World → Prop} {tmps : Array Value} {W : World} {v : Value}
    (hr : (results fn tmps).run P W = .ok v W) (h : R (.returned v) W) : bodyPostM WF 0 P fn R .ret { tmps, defers := [] } W := ⟨v, hr, h⟩

end Go.Proofs.YtppncdbhebgcaaaGreatDoor.Sw7
namespace Go.Proofs.YtppncdbhebgcaaaGreatDoor.Sw7
open Go.RowKit
attribute [local go_sem] Oper.semAt_some

/-- the least that a plan earns in the first box and in the first so many boxes -/
def leastTo (V : Visit) (q : Nat → Nat) : Nat → Int
  | 0 => earnTo V.S.earn (q 0) 0 V.S.earn.length
  | k + 1 => min (leastTo V q k) (earnTo V.S.earn (q k) k V.S.earn.length)
theorem leastTo_bd {V : Visit} (hO : VOK V) (q : Nat → Nat) : ∀ k, 0 ≤ leastTo V q k ∧ leastTo V q k ≤ 5994
  | 0 => earnTo_all hO _ _
  | k + 1 => by
    have h := leastTo_bd hO q k
    have := earnTo_all hO (q k) k
    unfold leastTo
    omega
def fairOf (V : Visit) (L : List (Nat → Nat)) : Int := L.foldl (fun m q => max m (leastTo V q V.S.boxes.length)) 0
theorem fairOf_snoc (V : Visit) (L : List (Nat → Nat)) (q : Nat → Nat) : fairOf V (L ++ [q]) = max (fairOf V L) (leastTo V q V.S.boxes.length) := by simp [fairOf]

/-- what Fair returns -/
noncomputable def fairV (S : Swap) : Value :=
  if bP (Valid S) = true then (if S.boxes.length = 0 then .tuple #[.int .i64 0, .int .i64 3] else .tuple #[.int .i64 (fairOf (openV S) (allP (openV S))), .int .i64 0]) else .tuple #[.int .i64 0, .int .i64 70]

set_option maxHeartbeats 1600000 in
theorem Fair07 (v : Value) (S : Swap) (w : World) (hv : SwapV w v S) (hM : Modest S) : Calls Tryz.prog 12 #[v] w (RetE (fairV S) w) := by
  have hC := fun w' (h : Ext w w') => Check07 v S w' (SwapV.mono _ _ _ _ h hv) hM
  obtain ⟨p0, c0, p1, c1, p2, c2, p3, c3, rfl, h0, h1, h2, h3⟩ := id hv
  have HC := Lib.hid hC
  clear hC
  by_cases hS : Valid S
  · have HS := Lib.hid hS
    have HC2 := Lib.hid (fun w' h => (HC.out w' h).mono (R' := RetE (.int .i64 0) w') (fun e w'' hh => by rw [← chk_t hS]; exact hh))
    clear HC hS
    refine calls_of_marks Tryz.func12 rfl ?_
    simp only [Tryz.ntmps12, List.size_toArray, List.length_cons, List.length_nil, Nat.reduceAdd, Nat.reduceSub, Array.replicate_succ, Array.replicate_zero, List.push_toArray, List.append_toArray, List.nil_append, List.cons_append]
    go_upto_region 1 with (fail)
    have hn := heap_new w (.cells #[.slice p0 S.boxes.length c0, .slice p1 S.stock.length c1, .slice p2 S.earn.length c2, .slice p3 S.keeps.length c3, .int .i64 S.changes] 33)
    obtain ⟨W, hW⟩ : ∃ W, W = w.alloc (.cells #[.slice p0 S.boxes.length c0, .slice p1 S.stock.length c1, .slice p2 S.earn.length c2, .slice p3 S.keeps.length c3, .int .i64 S.changes] 33) := ⟨_, rfl⟩
    have hE : Ext w W := by rw [hW]; exact Ext.alloc (Ext.refl w) _
    rw [← hW] at hn ⊢
    have q0 := ExtW.cell (v := .slice p0 S.boxes.length c0) (cell_of_heap hn 0)
    have q1 := ExtW.cell (v := .slice p1 S.stock.length c1) (cell_of_heap hn 1)
    have q2 := ExtW.cell (v := .slice p2 S.earn.length c2) (cell_of_heap hn 2)
    have q3 := ExtW.cell (v := .slice p3 S.keeps.length c3) (cell_of_heap hn 3)
    have q4 := ExtW.cell (v := .int .i64 S.changes) (cell_of_heap hn 4)
    obtain ⟨x0, hx0⟩ := ExtW.of (Ext.refl W)
    have HV := Lib.hid hv
    clear hW hn hv
    conv => arg 5; rw [hx0]
    go_wp2_with fail
    refine (ExtW.call (HC2.out _ (hE.trans x0.h))).mono ?_
    rintro e _ ⟨rfl, x1, rfl⟩
    by_cases hg : S.boxes.length = 0
    · have HFV := Lib.hid (show fairV S = .tuple #[.int .i64 0, .int .i64 3] from by simp [fairV, bP_t HS.out, hg])
      have hg' : ((S.boxes.length : Int) == 0) = true := by simp [hg]
      clear hg
      go_wp2
      exact noMarks_ret (v := .tuple #[.int .i64 0, .int .i64 3]) (results_tmp2 (t := 2) (u := 3) rfl _ _ _) (RetE.fin (hE.trans x1.h) HFV.out.symm)
    · have HG := Lib.hid hg
      have hg' : ((S.boxes.length : Int) == 0) = false := beq_eq_false_iff_ne.2 (by omega)
      have hlen := HS.out.boxes
      have hpos : 0 < S.boxes.length := by omega
      clear hg
      go_wp2_with fail
      refine (open07 _ S x1.w (SwapV.mono _ _ _ _ (hE.trans x1.h) HV.out) HS.out).mono ?_
      rintro e W2 ⟨b, rfl, hvis, hE2, -⟩
      go_wp2
      have hO := openV_ok HS.out
      obtain ⟨V, hV⟩ : ∃ V, V = openV S := ⟨_, rfl⟩
      have hVS : V.S = S := by rw [hV]; rfl
      rw [← hV] at hvis hO
      have hn1 := heap_new1 W2 (.cells #[.pointer (some ⟨b, 0, none⟩)] 82) (cellI 0)
      have hn2 := heap_new2 W2 (.cells #[.pointer (some ⟨b, 0, none⟩)] 82) (cellI 0)
      obtain ⟨W1, hW⟩ : ∃ W1, W1 = (W2.alloc (.cells #[.pointer (some ⟨b, 0, none⟩)] 82)).alloc (.cells #[.int .i64 0] 3) := ⟨_, rfl⟩
      have hE1 : Ext W2 W1 := by rw [hW]; exact Ext.alloc (Ext.alloc (Ext.refl W2) _) _
      have hs1 : W1.heap.size = W2.heap.size + 2 := by rw [hW]; simp
      have hgc := hE2.cell (q0 x1)
      unfold cellI at hn1 hn2
      rw [← hW] at hn1 hn2 ⊢
      have HVO := Lib.hid hV
      have HVS := Lib.hid hVS
      have hEW := hE.trans x1.h |>.trans hE2
      have hgb : w.heap.size < W2.heap.size := lt_of_cell hgc
      clear hW hV hVS q0 q1 q2 q3 q4 hE2 hE HV h0 h1 h2 h3
      obtain ⟨L, hL⟩ : ∃ L, L = allP V := ⟨_, rfl⟩
      refine range_all (fst := #[.pointer (some ⟨b, 0, none⟩)]) (gf := 41) (cap := #[]) rfl Tryz.call41 pl3 okP L W2.heap.size (by omega)
        (fun pre W => W.heap[W2.heap.size]? = some (.cells #[.pointer (some ⟨b, 0, none⟩)] 82) ∧ W.heap[W2.heap.size + 1]? = some (cellI (fairOf V pre)) ∧ Ext W2 W)
        ?hI ⟨hn1, hn2, hE1⟩ ?hiter ?hround ?hdone
      case hI =>
        rintro pre W W' ⟨h1, h2, h4⟩ hb
        exact ⟨(hb.block _ (by omega)).trans h1, (hb.block _ (by omega)).trans h2, Below.trans h4 (hb.mono (by omega))⟩
      case hiter =>
        intro l J hJ hY W hE hs hj
        rw [hL]
        exact each07 V hO b l W2.heap.size (W1.heap.size + 2) W2 hvis (Nat.le_refl _) J hJ hY W (hE1.trans hE) hs hj
      case hround =>
        rintro l pre x Wr hok rfl ⟨h1, h2, h4⟩ hs
        have hn := heap_new Wr (.cells #[.int .u64 (x 0), .int .u64 (x 1), .int .u64 (x 2)] 80)
        unfold pl3
        gi_wp2
        refine ⟨Ext.alloc (Ext.refl Wr) _, fun W4 hW4 => ?_⟩
        obtain ⟨W', hW'⟩ : ∃ W', W' = Wr.alloc (.cells #[.int .u64 (x 0), .int .u64 (x 1), .int .u64 (x 2)] 80) := ⟨_, rfl⟩
        have hEW' : Ext Wr W' := by rw [hW']; exact Ext.alloc (Ext.refl Wr) _
        rw [← hW'] at hn hW4
        have g1 := (hW4.block W2.heap.size (by omega)).trans ((Below.block hEW' _ (by omega)).trans h1)
        have g2 := (hW4.block (W2.heap.size + 1) (by omega)).trans ((Below.block hEW' _ (by omega)).trans h2)
        have g5 := (hW4.block Wr.heap.size (by omega)).trans hn
        have g4 : Ext W2 W4 := (h4.trans hEW').trans' (hW4.below (by omega))
        have hsz : Wr.heap.size < W4.heap.size := (Array.getElem?_eq_some_iff.1 g5).1
        have hbl : 0 < V.S.boxes.length := by rw [HVS.out]; exact hpos
        clear hW' hn h1 h2 h4 hEW' hW4 hn1 hn2 hE1
        have hsn := fairOf_snoc V pre x
        obtain ⟨m, hm⟩ : ∃ m, m = fairOf V pre := ⟨_, rfl⟩
        rw [← hm] at g2 hsn
        have HM := Lib.hid hm
        have HSN := Lib.hid hsn
        clear hm hsn
        have hc1 := ExtW.cell (v := .pointer (some ⟨b, 0, none⟩)) (cell_of_heap g1 0)
        have hc50 := ExtW.cell (box3_cell (g := x) g5 0 (by decide))
        have hc51 := ExtW.cell (box3_cell (g := x) g5 1 (by decide))
        have hc52 := ExtW.cell (box3_cell (g := x) g5 2 (by decide))
        have hcb := ExtW.cell (g4.cell hgc)
        have rm := ExtW.cell (v := .int .i64 m) (cell_of_heap g2 0)
        have hSu : ∀ k, k < V.S.boxes.length → ∀ y : ExtW W4, Calls Tryz.prog 42 #[.pointer (some ⟨b, 0, none⟩), pl3 x, .int .i64 k] y.w (RetE (.int .i64 (earnTo V.S.earn (x k) k V.S.earn.length)) y.w) :=
          fun k hk y => earns07 x k b V y.w (hvis.ext (g4.trans y.h)) hO hk (hok k (by have := hO.boxes; omega))
        have HSU := Lib.hid hSu
        have HVL := Lib.hid (show V.S.boxes.length = S.boxes.length from by rw [HVS.out])
        unfold pl3 at HSU
        clear hSu
        obtain ⟨x0, hx0⟩ := ExtW.of (Ext.refl W4)
        conv => arg 7; rw [hx0]
        gi_wp2_with fail
        refine ⟨trivial, rfl, ?_⟩
        refine (CallsIn.inRound _ (callsIn_wide.2 (ExtW.call (HSU.out 0 hbl x0)))).mono ?_
        rintro e _ ⟨rfl, y1, rfl⟩
        gi_wp2
        gi_loopw [8, 30] (fun a i wr => ∃ k : Nat, k ≤ S.boxes.length ∧ i = .int .i64 k ∧ a = .int .i64 (leastTo V x k) ∧ ∃ y : ExtW W4, wr = y.w) (fun _ i _ => S.boxes.length - (intOf i).toNat)
        case atStart => exact ⟨0, by omega, rfl, rfl, y1, rfl⟩
        case round =>
          obtain ⟨k, hk, rfl, rfl, y2, rfl⟩ := hrel
          obtain ⟨lb1, lb2⟩ := leastTo_bd hO x k
          by_cases hlt : k < S.boxes.length
          · have hC := HSU.out k (by rw [HVL.out]; exact hlt) y2
            obtain ⟨eb1, eb2⟩ := earnTo_all hO (x k) k
            have HS3 : Hid (leastTo V x (k + 1) = min (leastTo V x k) (earnTo V.S.earn (x k) k V.S.earn.length)) := rfl
            obtain ⟨a1, ha1⟩ : ∃ a1, a1 = leastTo V x k := ⟨_, rfl⟩
            obtain ⟨a2, ha2⟩ : ∃ a2, a2 = earnTo V.S.earn (x k) k V.S.earn.length := ⟨_, rfl⟩
            rw [← ha1] at lb1 lb2 HS3 ⊢
            rw [← ha2] at eb1 eb2 HS3 hC
            have HC3 := Lib.hid hC
            clear ha1 ha2 hC
            gi_wp2_with fail
            refine ⟨trivial, rfl, ?_⟩
            refine (CallsIn.inRound _ (callsIn_wide.2 (ExtW.call HC3.out))).mono ?_
            rintro e _ ⟨rfl, y3, rfl⟩
            gi_wp2
            go_roundw
            case rel => exact ⟨k + 1, by omega, by go_num, congrArg (Value.int .i64) (by rw [HS3.out]; split <;> omega), y3, rfl⟩
            case measure => simp [intOf]; omega
          · obtain rfl : k = S.boxes.length := by omega
            have hq2 := (Below.block y2.h (W2.heap.size + 1) (lt_of_cell (cell_of_heap g2 0))).trans g2
            have hq1 := (Below.block y2.h W2.heap.size (by omega)).trans g1
            have hf := cell_frozen hq2 0
            obtain ⟨a1, ha1⟩ : ∃ a1, a1 = leastTo V x S.boxes.length := ⟨_, rfl⟩
            rw [← ha1]
            have HA1 := Lib.hid ha1
            clear ha1
            by_cases hma : m < a1
            · have HMA := Lib.hid hma
              gi_wp2
              refine and_dep ?_ (fun hx => ⟨?_, ?_, by first | exact hx.ext g4 (Nat.le_refl _) | exact hx.ext (g4.trans x0.h) (Nat.le_refl _)⟩)
              · first
                  | exact ExtI.set (y2.h.toI _ _) (by omega) (by omega)
                  | (rw [← hx0]; exact ExtI.set (y2.h.toI _ _) (by omega) (by omega))
              · exact heap_set_ne (by omega) hq1
              · rw [HSN.out, HVL.out, ← HA1.out, show max m a1 = a1 from by have := HMA.out; omega]
                exact heap_set hq2 rfl
            · have HMA := Lib.hid hma
              gi_wp2
              refine and_dep ?_ (fun hx => ⟨?_, ?_, by first | exact hx.ext g4 (Nat.le_refl _) | exact hx.ext (g4.trans x0.h) (Nat.le_refl _)⟩)
              · first
                  | exact ExtI.set (y2.h.toI _ _) (by omega) (by omega)
                  | (rw [← hx0]; exact ExtI.set (y2.h.toI _ _) (by omega) (by omega))
              · exact heap_set_ne (by omega) hq1
              · rw [HSN.out, HVL.out, ← HA1.out, show max m a1 = m from by have := HMA.out; omega]
                exact heap_set hq2 rfl
      case hdone =>
        rintro W ⟨h1, h2, h4⟩ hd
        obtain ⟨m, hm⟩ : ∃ m, m = fairOf V L := ⟨_, rfl⟩
        rw [← hm] at h2
        have HM := Lib.hid hm
        clear hm
        have hc2 := cell_of_heap h2 0
        simp at hc2
        have HFV := Lib.hid (show fairV S = .tuple #[.int .i64 m, .int .i64 0] from by
          simp only [fairV, bP_t HS.out, if_true, if_neg HG.out, ← HVO.out, ← hL, ← HM.out])
        go_wp2
        refine marks_ret (v := .tuple #[.int .i64 m, .int .i64 0]) (hs1 ▸ hd) (fun _ _ => results_tmp2 (t := 2) (u := 3) rfl _ _ _) (fun W' hW' => RetE.fin ((hEW.trans h4).trans' (hW'.below ?_)) HFV.out.symm)
        have := hEW.size
        omega
  · rw [show fairV S = .tuple #[.int .i64 0, .int .i64 70] from by simp [fairV, bP_f hS]]
    have HC2 := Lib.hid (fun w' h => (HC.out w' h).mono (R' := RetE (.int .i64 70) w') (fun e w'' hh => by rw [← chk_f hS]; exact hh))
    clear HC hS
    refine calls_of_marks Tryz.func12 rfl ?_
    simp only [Tryz.ntmps12, List.size_toArray, List.length_cons, List.length_nil, Nat.reduceAdd, Nat.reduceSub, Array.replicate_succ, Array.replicate_zero, List.push_toArray, List.append_toArray, List.nil_append, List.cons_append]
    go_wp2_with fail
    refine (HC2.out _ (Ext.alloc (Ext.refl w) _)).mono ?_
    rintro e W2 ⟨rfl, hE2⟩
    go_wp2
    exact noMarks_ret (v := .tuple #[.int .i64 0, .int .i64 70]) (results_tmp2 (t := 2) (u := 3) rfl _ _ _) (RetE.fin ((Ext.alloc (Ext.refl w) _).trans hE2) rfl)
end Go.Proofs.YtppncdbhebgcaaaGreatDoor.Sw7
