/- The data of package swaps, as Lean sees it, and how they lie in memory. -/
import Derived.Test.YtpgjkmjejpfkmaaRng
namespace Go.Proofs.Ytpgjkmjejpfkmaa
open Go.RowKit

structure Swap where
  boxes : List (List Int)
  stock : List Int
  earn : List (List Int)
  keeps : List (Int × Int)
  changes : Int

theorem PairsAt.at {w : World} {p : Option Addr} {l : List (Int × Int)} (h : PairsAt w p l) (i : Nat) (hi : i < l.length) :
    ∃ b o, p = some ⟨b, o, none⟩ ∧ w.cell? ⟨b, o + i * 2, none⟩ = some (.int .i64 l[i].1) ∧ w.cell? ⟨b, o + i * 2 + 1, none⟩ = some (.int .i64 l[i].2) := h i hi


structure Visit where
  S : Swap
  now : Nat → Nat
  keeps : Nat → Nat
  copies : Nat → Int

def pl3 (f : Nat → Nat) : Value := .agg #[.int .u64 (f 0), .int .u64 (f 1), .int .u64 (f 2)]

/-- a swap by value -/
def SwapV (w : World) (v : Value) (S : Swap) : Prop := ∃ p0 c0 p1 c1 p2 c2 p3 c3,
  v = .agg #[.slice p0 S.boxes.length c0, .slice p1 S.stock.length c1, .slice p2 S.earn.length c2, .slice p3 S.keeps.length c3, .int .i64 S.changes] ∧
  ListsAt w p0 S.boxes ∧ IntsAt w p1 S.stock ∧ ListsAt w p2 S.earn ∧ PairsAt w p3 S.keeps
theorem SwapV.mono : Mono SwapV := by
  rintro w w' v S hE ⟨p0, c0, p1, c1, p2, c2, p3, c3, rfl, h0, h1, h2, h3⟩
  exact ⟨p0, c0, p1, c1, p2, c2, p3, c3, rfl, h0.ext hE, h1.ext hE, h2.ext hE, h3.ext hE⟩

def visitCells (p0 : Option Addr) (c0 : Nat) (p1 : Option Addr) (c1 : Nat) (p2 : Option Addr) (c2 : Nat) (p3 : Option Addr) (c3 : Nat) (V : Visit) : Array Value :=
  #[.slice p0 V.S.boxes.length c0, .slice p1 V.S.stock.length c1, .slice p2 V.S.earn.length c2, .slice p3 V.S.keeps.length c3, .int .i64 V.S.changes,
    .int .u64 (V.now 0), .int .u64 (V.now 1), .int .u64 (V.now 2), .int .u64 (V.keeps 0), .int .u64 (V.keeps 1), .int .u64 (V.keeps 2),
    .int .i64 (V.copies 0), .int .i64 (V.copies 1), .int .i64 (V.copies 2), .int .i64 (V.copies 3), .int .i64 (V.copies 4), .int .i64 (V.copies 5)]

/-- a visit at work lies in block b -/
def VisitAt (w : World) (b : Nat) (V : Visit) : Prop := ∃ w0 p0 c0 p1 c1 p2 c2 p3 c3, Ext w0 w ∧ w0.heap.size ≤ b ∧
  w.heap[b]? = some (.cells (visitCells p0 c0 p1 c1 p2 c2 p3 c3 V) 93 (0, 0)) ∧
  ListsAt w0 p0 V.S.boxes ∧ IntsAt w0 p1 V.S.stock ∧ ListsAt w0 p2 V.S.earn ∧ PairsAt w0 p3 V.S.keeps

theorem VisitAt.ext {w w' : World} {b : Nat} {V : Visit} (h : VisitAt w b V) (hE : Ext w w') : VisitAt w' b V := by
  obtain ⟨w0, p0, c0, p1, c1, p2, c2, p3, c3, h1, h2, h3, h4⟩ := h
  have hb : b < w.heap.size := (Array.getElem?_eq_some_iff.1 h3).1
  exact ⟨w0, p0, c0, p1, c1, p2, c2, p3, c3, h1.trans hE, h2, (Below.block hE b hb).trans h3, h4⟩

theorem cell_of_heap {w : World} {b : Nat} {cs : Array Value} {t : TypeId} {f : Nat × Nat} (h : w.heap[b]? = some (.cells cs t f)) (o : Nat) : w.cell? ⟨b, o, none⟩ = cs[o]? := by
  simp [World.cell?, h]

/-- what a reader of a visit wants to know of its cells -/
theorem VisitAt.facts {w : World} {b : Nat} {V : Visit} (h : VisitAt w b V) : ∃ p0 c0 p1 c1 p2 c2 p3 c3,
    ListsAt w p0 V.S.boxes ∧ IntsAt w p1 V.S.stock ∧ ListsAt w p2 V.S.earn ∧ PairsAt w p3 V.S.keeps ∧
    w.cell? ⟨b, 0, none⟩ = some (.slice p0 V.S.boxes.length c0) ∧ w.cell? ⟨b, 1, none⟩ = some (.slice p1 V.S.stock.length c1) ∧
    w.cell? ⟨b, 2, none⟩ = some (.slice p2 V.S.earn.length c2) ∧ w.cell? ⟨b, 3, none⟩ = some (.slice p3 V.S.keeps.length c3) ∧
    w.cell? ⟨b, 4, none⟩ = some (.int .i64 V.S.changes) ∧
    (∀ k, k < 3 → w.cell? ⟨b, 5 + k, none⟩ = some (.int .u64 (V.now k))) ∧ (∀ k, k < 3 → w.cell? ⟨b, 8 + k, none⟩ = some (.int .u64 (V.keeps k))) ∧
    (∀ k, k < 6 → w.cell? ⟨b, 11 + k, none⟩ = some (.int .i64 (V.copies k))) := by
  obtain ⟨w0, p0, c0, p1, c1, p2, c2, p3, c3, h1, h2, h3, h4, h5, h6, h7⟩ := h
  refine ⟨p0, c0, p1, c1, p2, c2, p3, c3, h4.ext h1, h5.ext h1, h6.ext h1, h7.ext h1, ?_, ?_, ?_, ?_, ?_, ?_, ?_, ?_⟩
  all_goals (try (rw [cell_of_heap h3]; rfl))
  all_goals (intro k hk; rw [cell_of_heap h3])
  · obtain rfl | rfl | rfl : k = 0 ∨ k = 1 ∨ k = 2 := by omega
    all_goals rfl
  · obtain rfl | rfl | rfl : k = 0 ∨ k = 1 ∨ k = 2 := by omega
    all_goals rfl
  · obtain rfl | rfl | rfl | rfl | rfl | rfl : k = 0 ∨ k = 1 ∨ k = 2 ∨ k = 3 ∨ k = 4 ∨ k = 5 := by omega
    all_goals rfl

theorem heap_new (w : World) (o : Obj) : (w.alloc o).heap[w.heap.size]? = some o := by
  show (w.heap.push o)[w.heap.size]? = some o
  simp

/-- strictly ascending lists of titles of a valid visit, and all else that makes it valid -/
structure Valid (S : Swap) : Prop where
  boxes : S.boxes.length ≤ 3
  stock : S.stock.length ≤ 6
  earn : S.earn.length = S.stock.length
  keeps : S.keeps.length ≤ 4
  ch : 0 ≤ S.changes ∧ S.changes ≤ 3
  box : ∀ i (h : i < S.boxes.length), S.boxes[i].length ≤ 3 ∧ Rises S.boxes[i] 0 ((S.stock.length : Int) - 1)
  st : ∀ i (h : i < S.stock.length), 0 ≤ S.stock[i] ∧ S.stock[i] ≤ 9
  row : ∀ i (h : i < S.earn.length), S.earn[i].length = S.boxes.length
  cell : ∀ i (h : i < S.earn.length) k (hk : k < S.earn[i].length), 0 ≤ S.earn[i][k] ∧ S.earn[i][k] ≤ 999
  keep : ∀ i (h : i < S.keeps.length), 0 ≤ S.keeps[i].1 ∧ S.keeps[i].1 ≤ (S.boxes.length : Int) - 1 ∧ S.keeps[i].2 ∈ S.boxes.getD S.keeps[i].1.toNat []

/-- a visit that is valid but for one copy or change too many -/
structure ValidE (S : Swap) : Prop where
  boxes : S.boxes.length ≤ 3
  stock : S.stock.length ≤ 6
  earn : S.earn.length = S.stock.length
  keeps : S.keeps.length ≤ 4
  ch : 0 ≤ S.changes ∧ S.changes ≤ 4
  box : ∀ i (h : i < S.boxes.length), S.boxes[i].length ≤ 3 ∧ Rises S.boxes[i] 0 ((S.stock.length : Int) - 1)
  st : ∀ i (h : i < S.stock.length), 0 ≤ S.stock[i] ∧ S.stock[i] ≤ 10
  row : ∀ i (h : i < S.earn.length), S.earn[i].length = S.boxes.length
  cell : ∀ i (h : i < S.earn.length) k (hk : k < S.earn[i].length), 0 ≤ S.earn[i][k] ∧ S.earn[i][k] ≤ 999
  keep : ∀ i (h : i < S.keeps.length), 0 ≤ S.keeps[i].1 ∧ S.keeps[i].1 ≤ (S.boxes.length : Int) - 1 ∧ S.keeps[i].2 ∈ S.boxes.getD S.keeps[i].1.toNat []
theorem Valid.e {S : Swap} (h : Valid S) : ValidE S := ⟨h.boxes, h.stock, h.earn, h.keeps, ⟨h.ch.1, by have := h.ch.2; omega⟩, h.box, fun i hi => ⟨(h.st i hi).1, by have := (h.st i hi).2; omega⟩, h.row, h.cell, h.keep⟩

/-- a visit whose numbers are as they should be -/
structure VOK (V : Visit) : Prop where
  boxes : V.S.boxes.length ≤ 3
  stock : V.S.stock.length ≤ 6
  earn : V.S.earn.length = V.S.stock.length
  row : ∀ i (h : i < V.S.earn.length), V.S.earn[i].length = V.S.boxes.length
  cell : ∀ i (h : i < V.S.earn.length) k (hk : k < V.S.earn[i].length), 0 ≤ V.S.earn[i][k] ∧ V.S.earn[i][k] ≤ 999
  ch : 0 ≤ V.S.changes ∧ V.S.changes ≤ 9
  now : ∀ k, k < 3 → V.now k < 64
  keeps : ∀ k, k < 3 → V.keeps k < 64
  copies : ∀ k, k < 6 → 0 ≤ V.copies k ∧ V.copies k ≤ 99
  titles : ∀ i (h : i < V.S.boxes.length), V.S.boxes[i].length ≤ 3

/-- what the first titles of a set earn in a box -/
def earnTo (E : List (List Int)) (m k : Nat) : Nat → Int
  | 0 => 0
  | n + 1 => earnTo E m k n + (if m.testBit n then (E.getD n []).getD k 0 else 0)
theorem earnTo_bd {V : Visit} (hV : VOK V) (m k : Nat) : ∀ n, n ≤ V.S.earn.length → 0 ≤ earnTo V.S.earn m k n ∧ earnTo V.S.earn m k n ≤ 999 * n
  | 0, _ => by simp [earnTo]
  | n + 1, h => by
    obtain ⟨h1, h2⟩ := earnTo_bd hV m k n (by omega)
    have hn : n < V.S.earn.length := by omega
    have he : V.S.earn.getD n [] = V.S.earn[n] := by simp [List.getD, hn]
    have hc : 0 ≤ (V.S.earn[n]).getD k 0 ∧ (V.S.earn[n]).getD k 0 ≤ 999 := by
      by_cases hk : k < V.S.earn[n].length
      · have := hV.cell n hn k hk
        simp only [List.getD, List.getElem?_eq_getElem hk, Option.getD_some]
        exact this
      · simp [List.getD, List.getElem?_eq_none (by omega : V.S.earn[n].length ≤ k)]
    unfold earnTo
    rw [he]
    split <;> omega

/-- a plan that is boxed -/
theorem pl3_cell {w : World} {f : Nat → Nat} {t : TypeId} (k : Nat) (hk : k < 3) :
    (w.alloc (.cells #[.int .u64 (f 0), .int .u64 (f 1), .int .u64 (f 2)] t)).cell? ⟨w.heap.size, k, none⟩ = some (.int .u64 (f k)) := by
  rw [cell_of_heap (heap_new _ _)]
  obtain rfl | rfl | rfl : k = 0 ∨ k = 1 ∨ k = 2 := by omega
  all_goals rfl
end Go.Proofs.Ytpgjkmjejpfkmaa
