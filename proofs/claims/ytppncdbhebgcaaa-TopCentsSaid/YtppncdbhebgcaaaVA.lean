
/- Small plain lemmas on worlds, on slices that read as lists, and on what a call leaves alone. No program in sight. A range over a function whose iterator is a plain list of values: one law for the loop, at a method value or a closure. No program in sight. A range over a function whose iterator writes cells of its own (a state that the rounds read): the law of the loop with frames as sets of blocks. No program in sight. The law of a range over a function, where what is yielded is a value that reads as something in memory. No program in sight. A drawn region whose reads float while its calls, allocations and stores stand in one order: the reads are taken first, a condition S is held up to the tail, and the tail (a store into a cell that was read, say) is walked in order. No program in sight. A drawn region by facts: each operation is walked once, from any later world, with the facts that the operations ahead of it have laid down. No program in sight. -/
import Derived.WalkKit
import Derived.WalkSpells
import Derived.WalkLawsBesides
import Derived.Lib.Hide
import Derived.Deep.QuietTactic
import Derived.BigQuiet
import Derived.Deep.Cut
import Derived.Deep.CutBlock
import Derived.RangeFuncNested
import Derived.RangeFuncBound
import Derived.RangeFuncCalls
import Derived.RangeFuncLeaves
import Derived.Shelf.Abstract
import Derived.Shelf.RegionOpen
import Derived.OwnWalkIn
import Derived.TacticsInMore
import Derived.LoopNIn
import Derived.LoopIn
import Derived.StillTail
import Derived.OrdersHeld
import Derived.RegionTactic
namespace Go.Proofs.Ytppncdbhebgcaaa
open Go.RowKit

/-- the later world has all that the earlier one had -/
def Ext (w w' : World) : Prop := Below w.heap.size w w'
theorem Ext.refl (w : World) : Ext w w := Below.refl _ _
theorem Ext.trans {a b c : World} (h : Ext a b) (k : Ext b c) : Ext a c := Below.trans h (Below.mono k (Below.size h))
theorem Ext.alloc {a w : World} (h : Ext a w) (o : Obj) : Ext a (w.alloc o) := Below.alloc h (Below.size h) o
theorem Ext.drew {a w : World} (h : Ext a w) : Ext a w.drew := Below.drew h
theorem Ext.setCell {a w : World} (h : Ext a w) {p : Addr} (hp : a.heap.size ≤ p.block) (u : Value) : Ext a (w.setCell p u) := Below.setCell h hp u
theorem Ext.size {a w : World} (h : Ext a w) : a.heap.size ≤ w.heap.size := Below.size h

theorem lt_of_cell {w : World} {b o : Nat} {v : Value} (h : w.cell? ⟨b, o, none⟩ = some v) : b < w.heap.size := by
  unfold World.cell? at h
  cases hb : w.heap[b]? with
  | none => simp [hb] at h
  | some x => exact (Array.getElem?_eq_some_iff.1 hb).1

theorem Ext.cell {a w : World} (h : Ext a w) {b o : Nat} {v : Value} (hc : a.cell? ⟨b, o, none⟩ = some v) : w.cell? ⟨b, o, none⟩ = some v :=
  (Below.cell h (p := ⟨b, o, none⟩) (lt_of_cell hc)).trans hc

/-- a slice at p whose elements (one cell each) read by R as the list l -/
def SlAt {α : Type} (R : World → Value → α → Prop) (w : World) (p : Option Addr) (l : List α) : Prop :=
  ∀ i (h : i < l.length), ∃ b o v, p = some ⟨b, o, none⟩ ∧ w.cell? ⟨b, o + i, none⟩ = some v ∧ R w v l[i]

def Mono {α : Type} (R : World → Value → α → Prop) : Prop := ∀ w w' v x, Ext w w' → R w v x → R w' v x

theorem SlAt.ext {α : Type} {R : World → Value → α → Prop} (hR : Mono R) {w w' : World} {p : Option Addr} {l : List α} (h : SlAt R w p l) (hE : Ext w w') : SlAt R w' p l := by
  intro i hi
  obtain ⟨b, o, v, hp, hc, hv⟩ := h i hi
  exact ⟨b, o, v, hp, hE.cell hc, hR _ _ _ _ hE hv⟩

/-- an int -/
def IntR (_ : World) (v : Value) (n : Int) : Prop := v = .int .i64 n
theorem IntR.mono : Mono IntR := fun _ _ _ _ _ h => h

/-- ints -/
def IntsAt (w : World) (p : Option Addr) (l : List Int) : Prop := SlAt IntR w p l
theorem IntsAt.ext {w w' : World} {p : Option Addr} {l : List Int} (h : IntsAt w p l) (hE : Ext w w') : IntsAt w' p l := SlAt.ext IntR.mono h hE
theorem IntsAt.at {w : World} {p : Option Addr} {l : List Int} (h : IntsAt w p l) (i : Nat) (hi : i < l.length) :
    ∃ b o, p = some ⟨b, o, none⟩ ∧ w.cell? ⟨b, o + i, none⟩ = some (.int .i64 l[i]) := by
  obtain ⟨b, o, v, hp, hc, rfl⟩ := h i hi
  exact ⟨b, o, hp, hc⟩
theorem IntsAt.nil (w : World) (p : Option Addr) : IntsAt w p [] := fun i h => absurd h (by simp)

/-- a value that is a slice of ints -/
def IntsV (w : World) (v : Value) (l : List Int) : Prop := ∃ p c, v = .slice p l.length c ∧ IntsAt w p l
theorem IntsV.mono : Mono IntsV := by
  rintro w w' v x hE ⟨p, c, rfl, h⟩
  exact ⟨p, c, rfl, h.ext hE⟩

/-- lists of ints -/
def ListsAt (w : World) (p : Option Addr) (l : List (List Int)) : Prop := SlAt IntsV w p l
theorem ListsAt.ext {w w' : World} {p : Option Addr} {l : List (List Int)} (h : ListsAt w p l) (hE : Ext w w') : ListsAt w' p l := SlAt.ext IntsV.mono h hE
theorem ListsAt.at {w : World} {p : Option Addr} {l : List (List Int)} (h : ListsAt w p l) (i : Nat) (hi : i < l.length) :
    ∃ b o q c, p = some ⟨b, o, none⟩ ∧ w.cell? ⟨b, o + i, none⟩ = some (.slice q (l[i].length) c) ∧ IntsAt w q l[i] := by
  obtain ⟨b, o, v, hp, hc, q, c, rfl, hq⟩ := h i hi
  exact ⟨b, o, q, c, hp, hc, hq⟩

def ListsV (w : World) (v : Value) (l : List (List Int)) : Prop := ∃ p c, v = .slice p l.length c ∧ ListsAt w p l
theorem ListsV.mono : Mono ListsV := by
  rintro w w' v x hE ⟨p, c, rfl, h⟩
  exact ⟨p, c, rfl, h.ext hE⟩

/-- a slice of pairs of ints (two cells each) -/
def PairsAt (w : World) (p : Option Addr) (l : List (Int × Int)) : Prop :=
  ∀ i (h : i < l.length), ∃ b o, p = some ⟨b, o, none⟩ ∧ w.cell? ⟨b, o + i * 2, none⟩ = some (.int .i64 l[i].1) ∧ w.cell? ⟨b, o + i * 2 + 1, none⟩ = some (.int .i64 l[i].2)
theorem PairsAt.ext {w w' : World} {p : Option Addr} {l : List (Int × Int)} (h : PairsAt w p l) (hE : Ext w w') : PairsAt w' p l := by
  intro i hi
  obtain ⟨b, o, hp, hc, hd⟩ := h i hi
  exact ⟨b, o, hp, hE.cell hc, hE.cell hd⟩
theorem PairsAt.nil (w : World) (p : Option Addr) : PairsAt w p [] := fun i h => absurd h (by simp)

/-- the later worlds of a -/
structure ExtW (a : World) where
  w : World
  h : Ext a w
instance (a : World) : Nonempty (ExtW a) := ⟨⟨a, Ext.refl a⟩⟩
theorem ExtW.of {a w : World} (h : Ext a w) : ∃ x : ExtW a, w = x.w := ⟨⟨w, h⟩, rfl⟩
theorem ExtW.cell {a : World} {b o : Nat} {v : Value} (hc : a.cell? ⟨b, o, none⟩ = some v) (x : ExtW a) : x.w.cell? ⟨b, o, none⟩ = some v := x.h.cell hc
/-- v is returned; what was there is as it was -/
def RetE (v : Value) (w : World) (e : Ending) (w' : World) : Prop := e = .returned v ∧ Ext w w'
theorem RetE.fin {v v' : Value} {w w' : World} (hw : Ext w w') (h : v' = v) : RetE v w (.returned v') w' := ⟨by rw [h], hw⟩
theorem ExtW.call {a : World} {P : Program} {f : FuncId} {args : Array Value} {v : Value} {x : ExtW a} (h : Calls P f args x.w (RetE v x.w)) :
    Calls P f args x.w fun e w'' => e = .returned v ∧ ∃ y : ExtW a, w'' = y.w :=
  h.mono fun _ w' ⟨he, hw⟩ => ⟨he, ⟨w', x.h.trans hw⟩, rfl⟩
/-- the same over an earlier world -/
theorem wp_region_extW {P : Program} {id : Nat} {Q : Exit → Act → World → Prop} {a : Act} {w0 : World} {x : ExtW w0} {l : List Oper} (hm : P.follows .mixedOrders = true) (hB : Region.lexB .any l.toArray = true)
    (h : wpQuiet P l.toArray (fun w' => ∃ x : ExtW w0, w' = x.w) (fun a' => ∀ w', (∃ x : ExtW w0, w' = x.w) → Q .normal a' w') l a) : (Code.region id l.toArray true).wp P Q a x.w :=
  wp_region_quiet (C := fun w' => ∃ x : ExtW w0, w' = x.w) hm hB (ExtW.of x.h.drew) (by simpa using h)

/-! plain lists -/
def winB (n lo hi : Int) : Bool := decide (lo ≤ n) && decide (n ≤ hi)
/-- the bool of a proposition -/
noncomputable def bP (P : Prop) : Bool := @decide P (Classical.propDecidable P)
theorem bP_iff {P : Prop} : bP P = true ↔ P := by simp [bP]
theorem bP_t {P : Prop} (h : P) : bP P = true := bP_iff.2 h
theorem bP_f {P : Prop} (h : ¬P) : bP P = false := by simp [bP, h]

/-- v is returned; nothing but draws has happened -/
def RetQ (v : Value) (w : World) (e : Ending) (w' : World) : Prop := e = .returned v ∧ ∃ m, w' = w.drewN m
theorem RetQ.mk {v : Value} {w : World} (m : Nat) : RetQ v w (.returned v) (w.drewN m) := ⟨rfl, m, rfl⟩
theorem RetQ.mk0 {v : Value} {w : World} : RetQ v w (.returned v) w := ⟨rfl, 0, rfl⟩
theorem RetQ.t {P : Prop} {w : World} (h : P) (m : Nat) : RetQ (.bool (bP P)) w (.returned (.bool true)) (w.drewN m) := ⟨by rw [bP_t h], m, rfl⟩
theorem RetQ.f {P : Prop} {w : World} (h : ¬P) (m : Nat) : RetQ (.bool (bP P)) w (.returned (.bool false)) (w.drewN m) := ⟨by rw [bP_f h], m, rfl⟩
theorem RetQ.t0 {P : Prop} {w : World} (h : P) : RetQ (.bool (bP P)) w (.returned (.bool true)) w := ⟨by rw [bP_t h], 0, rfl⟩
theorem RetQ.f0 {P : Prop} {w : World} (h : ¬P) : RetQ (.bool (bP P)) w (.returned (.bool false)) w := ⟨by rw [bP_f h], 0, rfl⟩
def Qt (w w' : World) : Prop := ∃ m, w' = w.drewN m
theorem Qt.refl (w : World) : Qt w w := ⟨0, rfl⟩
theorem Qt.drewN {w x : World} (h : Qt w x) (n : Nat) : Qt w (x.drewN n) := by obtain ⟨m, rfl⟩ := h; exact ⟨m + n, World.drewN_drewN _ _ _⟩
theorem Qt.drew {w x : World} (h : Qt w x) : Qt w x.drew := h.drewN 1
theorem RetQ.fin {v v' : Value} {w w' : World} (hw : Qt w w') (h : v' = v) : RetQ v w (.returned v') w' := ⟨by rw [h], hw⟩
theorem Qt.ext {w x : World} (h : Qt w x) : Ext w x := by obtain ⟨m, rfl⟩ := h; exact ⟨rfl, rfl, rfl, Nat.le_refl _, fun _ _ => rfl⟩
theorem Qt.trans {a b c : World} (h : Qt a b) (k : Qt b c) : Qt a c := by obtain ⟨m, rfl⟩ := k; exact h.drewN m
theorem RetQ.from {v : Value} {w w1 : World} {e : Ending} {w' : World} (h : RetQ v w1 e w') (hQ : Qt w w1) : RetQ v w e w' := ⟨h.1, hQ.trans h.2⟩
theorem RetQ.e {v : Value} {w : World} {P : Program} {f : FuncId} {args : Array Value} (h : Calls P f args w (RetQ v w)) : Calls P f args w (RetE v w) := h.mono fun _ _ ⟨he, hq⟩ => ⟨he, Qt.ext hq⟩
theorem RetQ.bt {P : Program} {f : FuncId} {args : Array Value} {w : World} {p : Prop} (h : p) (hc : Calls P f args w (RetQ (.bool (bP p)) w)) : Calls P f args w (RetQ (.bool true) w) := by
  rwa [bP_t h] at hc
theorem RetQ.bf {P : Program} {f : FuncId} {args : Array Value} {w : World} {p : Prop} (h : ¬p) (hc : Calls P f args w (RetQ (.bool (bP p)) w)) : Calls P f args w (RetQ (.bool false) w) := by
  rwa [bP_f h] at hc
theorem RetE.bt {P : Program} {f : FuncId} {args : Array Value} {w : World} {p : Prop} (h : p) (hc : Calls P f args w (RetE (.bool (bP p)) w)) : Calls P f args w (RetE (.bool true) w) := by
  rwa [bP_t h] at hc
theorem RetE.bf {P : Program} {f : FuncId} {args : Array Value} {w : World} {p : Prop} (h : ¬p) (hc : Calls P f args w (RetE (.bool (bP p)) w)) : Calls P f args w (RetE (.bool false) w) := by
  rwa [bP_f h] at hc
theorem IntsAt.drewN {w : World} {p : Option Addr} {l : List Int} (h : IntsAt w p l) (n : Nat) : IntsAt (w.drewN n) p l := h
theorem ListsAt.drewN {w : World} {p : Option Addr} {l : List (List Int)} (h : ListsAt w p l) (n : Nat) : ListsAt (w.drewN n) p l := h
end Go.Proofs.Ytppncdbhebgcaaa
namespace Go.Proofs.Ytppncdbhebgcaaa
open Go.RowKit

/-- but for the blocks from B0 up to B1 what was there is as it was -/
structure ExtI (B0 B1 : Nat) (w w' : World) : Prop where
  os : w'.os = w.os
  tape : w'.tape = w.tape
  output : w'.output = w.output
  size : w.heap.size ≤ w'.heap.size
  block : ∀ k, k < w.heap.size → (k < B0 ∨ B1 ≤ k) → w'.heap[k]? = w.heap[k]?
theorem ExtI.refl (B0 B1 : Nat) (w : World) : ExtI B0 B1 w w := ⟨rfl, rfl, rfl, Nat.le_refl _, fun _ _ _ => rfl⟩
theorem ExtI.trans {B0 B1 : Nat} {a b c : World} (h : ExtI B0 B1 a b) (k : ExtI B0 B1 b c) : ExtI B0 B1 a c :=
  ⟨k.os.trans h.os, k.tape.trans h.tape, k.output.trans h.output, Nat.le_trans h.size k.size, fun i hi hb => (k.block i (Nat.lt_of_lt_of_le hi h.size) hb).trans (h.block i hi hb)⟩
theorem ExtI.mono {B0 B1 C : Nat} {a b : World} (h : ExtI B0 B1 a b) (hC : B1 ≤ C) : ExtI B0 C a b := ⟨h.os, h.tape, h.output, h.size, fun k hk hb => h.block k hk (by omega)⟩
theorem ExtI.setCell {B0 B1 : Nat} {a b : World} (h : ExtI B0 B1 a b) {p : Addr} (h0 : B0 ≤ p.block) (h1 : p.block < B1) (u : Value) : ExtI B0 B1 a (b.setCell p u) :=
  h.trans ⟨rfl, rfl, rfl, by simp [World.setCell], fun k _ hb => Below.heap_setCell _ _ _ _ (by omega)⟩
/-- over a world whose size is at most B0 nothing has turned -/
theorem ExtI.ext {B0 B1 : Nat} {a b c : World} (h : Ext a b) (k : ExtI B0 B1 b c) (hB : a.heap.size ≤ B0) : Ext a c :=
  ⟨k.os.trans (Below.os h), k.tape.trans (Below.tape h), k.output.trans (Below.output h), Nat.le_trans (Below.size h) k.size,
    fun i hi => (k.block i (Nat.lt_of_lt_of_le hi (Below.size h)) (.inl (by omega))).trans (Below.block h i hi)⟩

theorem ExtI.set {B0 B1 : Nat} {a b : World} {c o : Nat} {u : Value} (h : ExtI B0 B1 a b) (h0 : B0 ≤ c) (h1 : c < B1) : ExtI B0 B1 a (b.setCell ⟨c, o, none⟩ u) := h.setCell (p := ⟨c, o, none⟩) h0 h1 u
theorem ExtI.drew {B0 B1 : Nat} {a b : World} (h : ExtI B0 B1 a b) : ExtI B0 B1 a b.drew := ⟨h.os, h.tape, h.output, h.size, h.block⟩
theorem ExtI.drewN {B0 B1 : Nat} {a b : World} (h : ExtI B0 B1 a b) (n : Nat) : ExtI B0 B1 a (b.drewN n) := ⟨h.os, h.tape, h.output, h.size, h.block⟩
theorem heap_set {W : World} {B o : Nat} {u : Value} {cs cs' : Array Value} {t : TypeId} {f : Nat × Nat} (h : W.heap[B]? = some (.cells cs t f)) (e : cs' = cs.setIfInBounds o u) : (W.setCell ⟨B, o, none⟩ u).heap[B]? = some (.cells cs' t f) := by
  rw [e]
  simp only [World.setCell, Array.getElem?_modify, h]
  simp
theorem heap_set_ne {W : World} {B B' o : Nat} {u : Value} {r : Option Obj} (h : B' ≠ B) (k : W.heap[B']? = r) : (W.setCell ⟨B, o, none⟩ u).heap[B']? = r :=
  (Below.heap_setCell W ⟨B, o, none⟩ u B' h).trans k
/-- block l alone has turned -/
structure But (l : Nat) (w w' : World) : Prop where
  os : w'.os = w.os
  tape : w'.tape = w.tape
  output : w'.output = w.output
  size : w'.heap.size = w.heap.size
  block : ∀ k, k ≠ l → w'.heap[k]? = w.heap[k]?
theorem But.put (w : World) (l : Nat) (o : Obj) : But l w (w.putObj l o) := ⟨rfl, rfl, rfl, by simp [World.putObj], fun k hk => World.putObj_heap_other (by omega)⟩
theorem But.below {l C : Nat} {w w' : World} (h : But l w w') (h0 : C ≤ l) : Below C w w' := ⟨h.os, h.tape, h.output, by rw [h.size]; exact Nat.le_refl _, fun k hk => h.block k (by omega)⟩
theorem But.cell {l : Nat} {w w' : World} (h : But l w w') {b o : Nat} {v : Value} (hc : w.cell? ⟨b, o, none⟩ = some v) (hb : b ≠ l) : w'.cell? ⟨b, o, none⟩ = some v := by
  rw [← hc]; exact World.cell?_of_block (a := ⟨b, o, none⟩) (h.block b hb)

/-! a region of a round that draws its order and only reads: one walk, in the order of the text -/
section
variable {P : Program} {ops : Array Oper} {C : World → Prop} {md : Region.Mode} {l0 : Nat}
end
end Go.Proofs.Ytppncdbhebgcaaa
namespace Go.Proofs.Ytppncdbhebgcaaa
open Go.RowKit

/-- but for the blocks of E what was there is as it was -/
structure Fr (E : Nat → Prop) (w w' : World) : Prop where
  os : w'.os = w.os
  tape : w'.tape = w.tape
  output : w'.output = w.output
  size : w.heap.size ≤ w'.heap.size
  block : ∀ k, k < w.heap.size → ¬E k → w'.heap[k]? = w.heap[k]?
theorem Fr.refl (E : Nat → Prop) (w : World) : Fr E w w := ⟨rfl, rfl, rfl, Nat.le_refl _, fun _ _ _ => rfl⟩
theorem Fr.trans {E : Nat → Prop} {a b c : World} (h : Fr E a b) (k : Fr E b c) : Fr E a c :=
  ⟨k.os.trans h.os, k.tape.trans h.tape, k.output.trans h.output, Nat.le_trans h.size k.size, fun i hi hb => (k.block i (Nat.lt_of_lt_of_le hi h.size) hb).trans (h.block i hi hb)⟩
theorem Ext.fr {a b : World} (h : Ext a b) (E : Nat → Prop) : Fr E a b := ⟨Below.os h, Below.tape h, Below.output h, Below.size h, fun k hk _ => Below.block h k hk⟩
theorem Fr.mono {E F : Nat → Prop} {a b : World} (h : Fr E a b) (hC : ∀ k, E k → F k) : Fr F a b := ⟨h.os, h.tape, h.output, h.size, fun k hk hb => h.block k hk (fun e => hb (hC k e))⟩
theorem Fr.set {E : Nat → Prop} {a b : World} {c o : Nat} {u : Value} (h : Fr E a b) (h0 : E c) : Fr E a (b.setCell ⟨c, o, none⟩ u) :=
  h.trans ⟨rfl, rfl, rfl, by simp [World.setCell], fun k _ hb => Below.heap_setCell _ _ _ _ (fun e => hb (by simp only at e; exact e ▸ h0))⟩
theorem Fr.alloc {E : Nat → Prop} {a b : World} (h : Fr E a b) (o : Obj) : Fr E a (b.alloc o) := h.trans ((Ext.alloc (Ext.refl b) o).fr E)
theorem Fr.drew {E : Nat → Prop} {a b : World} (h : Fr E a b) : Fr E a b.drew := ⟨h.os, h.tape, h.output, h.size, h.block⟩
theorem Fr.drewN {E : Nat → Prop} {a b : World} (h : Fr E a b) (n : Nat) : Fr E a (b.drewN n) := ⟨h.os, h.tape, h.output, h.size, h.block⟩
/-- only later blocks have turned -/
theorem Fr.ext {E : Nat → Prop} {a b c : World} (h : Ext a b) (k : Fr E b c) (hB : ∀ i, E i → a.heap.size ≤ i) : Ext a c :=
  ⟨k.os.trans (Below.os h), k.tape.trans (Below.tape h), k.output.trans (Below.output h), Nat.le_trans (Below.size h) k.size,
    fun i hi => (k.block i (Nat.lt_of_lt_of_le hi (Below.size h)) (fun e => absurd (hB i e) (by omega))).trans (Below.block h i hi)⟩
theorem Fr.cell {E : Nat → Prop} {w w' : World} (h : Fr E w w') {b o : Nat} {v : Value} (hc : w.cell? ⟨b, o, none⟩ = some v) (hb : ¬E b) : w'.cell? ⟨b, o, none⟩ = some v := by
  rw [← hc]; exact World.cell?_of_block (a := ⟨b, o, none⟩) (h.block b (lt_of_cell hc) hb)
theorem But.fr {l : Nat} {w w' : World} (h : But l w w') {E : Nat → Prop} (h0 : E l) : Fr E w w' := ⟨h.os, h.tape, h.output, by rw [h.size]; exact Nat.le_refl _, fun k _ hb => h.block k (fun e => hb (e ▸ h0))⟩

end Go.Proofs.Ytppncdbhebgcaaa
namespace Go.Proofs.Ytppncdbhebgcaaa
open Go.RowKit

end Go.Proofs.Ytppncdbhebgcaaa
namespace Go.Proofs.Ytppncdbhebgcaaa
open Go.RowKit

section
variable {P : Program} {ops : Array Oper} {Q : Exit → Act → World → Prop} {md : Region.Mode} {S : World → Prop}

/-! the moves -/
end
end Go.Proofs.Ytppncdbhebgcaaa
namespace Go.Proofs.Ytppncdbhebgcaaa
open Go.RowKit

section
variable {P : Program} {ops : Array Oper} {Q : Exit → Act → World → Prop} {md : Region.Mode}

/-- the frame in which the destinations of operations hold ys -/
def fill (ys : Nat → Value) : Nat → List Oper → Act → Act
  | _, [], a => a
  | k, o :: l, a => fill ys (k + 1) l (a.put o.dst (ys k))
def dstB : List Oper → Bool
  | [] => true
  | o :: l => (o.dst.isNone || l.all (fun p => p.dst != o.dst)) && dstB l

theorem put_put (a : Act) (d : Option Tmp) (u v : Value) : (a.put d u).put d v = a.put d v := by
  cases d with
  | none => rfl
  | some d => simp [Act.put, Array.setIfInBounds_setIfInBounds]
theorem put_comm (a : Act) {d e : Option Tmp} (u v : Value) (h : d = none ∨ d ≠ e) : (a.put d u).put e v = (a.put e v).put d u := by
  cases d with
  | none => rfl
  | some d =>
    cases e with
    | none => rfl
    | some e =>
      have hne : d ≠ e := fun h' => by
        rcases h with h | h
        · cases h
        · exact h (by rw [h'])
      simp only [Act.put]
      rw [Array.setIfInBounds_comm _ _ hne]
theorem fill_congr {ys zs : Nat → Value} : ∀ (l : List Oper) (k : Nat) (a : Act), (∀ j, k ≤ j → ys j = zs j) → fill ys k l a = fill zs k l a
  | [], _, _, _ => rfl
  | o :: l, k, a, h => by
    simp only [fill, h k (Nat.le_refl _)]
    exact fill_congr l (k + 1) _ (fun j hj => h j (by omega))
theorem fill_put {ys : Nat → Value} {d : Option Tmp} (v : Value) : ∀ (l : List Oper) (k : Nat) (a : Act), (d = none ∨ ∀ p ∈ l, p.dst ≠ d) → (fill ys k l a).put d v = fill ys k l (a.put d v)
  | [], _, _, _ => rfl
  | o :: l, k, a, h => by
    simp only [fill]
    rw [fill_put v l (k + 1) _ (h.imp id (fun h p hp => h p (List.mem_cons_of_mem _ hp)))]
    rw [put_comm]
    rcases h with h | h
    · subst h
      cases ho : o.dst with
      | none => exact Or.inl rfl
      | some e => exact Or.inr (by simp)
    · exact Or.inr (h o (List.mem_cons_self ..))
def upd (ys : Nat → Value) (i : Nat) (v : Value) : Nat → Value := fun j => if j = i then v else ys j
theorem fill_upd {ys : Nat → Value} (v : Value) : ∀ (l : List Oper) (k : Nat) (a : Act) (i : Nat) (o : Oper), dstB l = true → l[i]? = some o → (fill ys k l a).put o.dst v = fill (upd ys (k + i) v) k l a
  | [], _, _, i, o, _, h => by simp at h
  | o0 :: l, k, a, i, o, hB, h => by
    simp only [dstB, Bool.and_eq_true] at hB
    cases i with
    | zero =>
      simp only [List.getElem?_cons_zero, Option.some.injEq] at h
      subst h
      simp only [fill, upd, Nat.add_zero, if_true]
      have hd : o0.dst = none ∨ ∀ p ∈ l, p.dst ≠ o0.dst := by
        have h1 := hB.1
        simp only [Bool.or_eq_true, Option.isNone_iff_eq_none, List.all_eq_true, bne_iff_ne] at h1
        exact h1
      rw [fill_put v l (k + 1) _ hd, put_put]
      refine fill_congr l (k + 1) _ (fun j hj => ?_)
      unfold upd
      rw [if_neg (by omega)]
    | succ i =>
      simp only [List.getElem?_cons_succ] at h
      simp only [fill]
      rw [fill_upd v l (k + 1) _ i o hB.2 h, show k + 1 + i = k + (i + 1) from by omega]
      have e : upd ys (k + (i + 1)) v k = ys k := by unfold upd; rw [if_neg (by omega)]
      rw [e]
def ys0 (l : List Oper) (a : Act) (k : Nat) : Value := match (l[k]?).bind (·.dst) with
  | some d => a.tmps.getD d undef
  | none => undef
theorem put_same (a : Act) (d : Tmp) : a.put (some d) (a.tmps.getD d undef) = a := by
  obtain ⟨t, ds⟩ := a
  simp only [Act.put]
  congr 1
  apply Array.ext
  · simp
  · intro i h1 h2
    rw [Array.getElem_setIfInBounds (by simpa using h1)]
    by_cases e : d = i
    · subst e; rw [if_pos rfl]; simp [h2]
    · rw [if_neg e]
theorem fill_same {ys : Nat → Value} : ∀ (l : List Oper) (k : Nat) (a : Act), (∀ j o d, l[j]? = some o → o.dst = some d → ys (k + j) = a.tmps.getD d undef) → fill ys k l a = a
  | [], _, _, _ => rfl
  | o :: l, k, a, h => by
    simp only [fill]
    have h1 : a.put o.dst (ys k) = a := by
      cases hd : o.dst with
      | none => rfl
      | some d =>
        have := h 0 o d rfl hd
        rw [Nat.add_zero] at this
        rw [this, put_same]
    rw [h1]
    exact fill_same l (k + 1) a (fun j o' d hj hd => by have := h (j + 1) o' d (by simpa using hj) hd; rwa [show k + (j + 1) = k + 1 + j from by omega] at this)

/-- what must lie ahead of operation i -/
def depsB (md : Region.Mode) (ops : Array Oper) (i : Nat) : Nat → List Nat → List Nat
  | 0, acc => acc
  | j + 1, acc => depsB md ops i j (if Region.waitsFor md ops i j || acc.any (fun k => Region.waitsFor md ops k j) then j :: acc else acc)
def deps (md : Region.Mode) (ops : Array Oper) (i : Nat) : List Nat := depsB md ops i i []
theorem depsB_ok {listed : Array Bool} {i : Nat} {oi : Oper} (ho : ops[i]? = some oi) (hall : ∀ e ∈ oi.after, Region.binds md e = true → listed.getD e.on false = true)
    (hcl : ∀ j oj, ops[j]? = some oj → listed.getD j false = true → ∀ e ∈ oj.after, Region.binds md e = true → listed.getD e.on false = true) :
    ∀ (j : Nat) (acc : List Nat), (∀ k ∈ acc, listed.getD k false = true) → ∀ k ∈ depsB md ops i j acc, listed.getD k false = true
  | 0, acc, h => h
  | j + 1, acc, h => by
    simp only [depsB]
    refine depsB_ok ho hall hcl j _ ?_
    split
    · next hc =>
      intro k hk
      rcases List.mem_cons.1 hk with rfl | hk
      · simp only [Bool.or_eq_true, List.any_eq_true] at hc
        rcases hc with hc | ⟨m, hm, hc⟩
        · obtain ⟨o', ho', e, he, hb, rfl⟩ := Region.waitsFor_spec hc
          obtain rfl : o' = oi := Option.some.inj (ho'.symm.trans ho)
          exact hall e he hb
        · obtain ⟨o', ho', e, he, hb, rfl⟩ := Region.waitsFor_spec hc
          exact hcl m o' ho' (h m hm) e he hb
      · exact h k hk
    · exact h

def upB (md : Region.Mode) (ops : Array Oper) : Bool := (List.range ops.size).all fun i => ((ops[i]?).map fun o => o.after.all fun e => !Region.binds md e || decide (e.on < i)).getD true
/-- the operations from n on stand behind all others, in one order -/
def tailB (md : Region.Mode) (ops : Array Oper) (n : Nat) : Bool := decide (n = ops.size) || (decide (n < ops.size) && Region.sinkB md ops n && Region.chainB md ops n)
def firstB (m n : Nat) : Array Bool := (Array.range m).map fun i => decide (i < n)
/-- facts of some operations: of the value, of the blocks that were made for it (from lo up to hi), and of the world -/
def Facts (F : Nat → Value → Nat → Nat → World → Prop) (ys : Nat → Value) (lo hi : Nat → Nat) (w : World) : List Nat → Prop
  | [] => True
  | j :: js => F j (ys j) (lo j) (hi j) w ∧ Facts F ys lo hi w js
theorem Facts.of {F : Nat → Value → Nat → Nat → World → Prop} {ys : Nat → Value} {lo hi : Nat → Nat} {w : World} : ∀ {l : List Nat}, (∀ j ∈ l, F j (ys j) (lo j) (hi j) w) → Facts F ys lo hi w l
  | [], _ => trivial
  | j :: _, h => ⟨h j (List.mem_cons_self ..), Facts.of (fun k hk => h k (List.mem_cons_of_mem _ hk))⟩
/-- where the new blocks of operations lie -/
structure Spans (n : Nat) (lo hi : Nat → Nat) (s t : Nat) : Prop where
  le : ∀ j, j < n → s ≤ lo j ∧ lo j ≤ hi j ∧ hi j ≤ t
  apart : ∀ i j, i < n → j < n → i ≠ j → hi i ≤ lo j ∨ hi j ≤ lo i

structure HInv (md : Region.Mode) (ops : Array Oper) (n : Nat) (R : World → World → Prop) (F : Nat → Value → Nat → Nat → World → Prop) (a0 : Act) (w0 : World) (l : List Oper) (listed : Array Bool) (a : Act) (w : World) : Prop where
  inv : HeadInv md ops n listed
  rel : R w0 w
  fr : ∃ (ys : Nat → Value) (lo hi : Nat → Nat), a = fill ys 0 l a0 ∧ (∀ j, listed.getD j false = true → F j (ys j) (lo j) (hi j) w ∧ w0.heap.size ≤ lo j ∧ lo j ≤ hi j ∧ hi j ≤ w.heap.size) ∧
    ∀ i j, listed.getD i false = true → listed.getD j false = true → i ≠ j → hi i ≤ lo j ∨ hi j ≤ lo i

theorem count_lt {p : Nat → Bool} {n : Nat} (h : ∃ i, i < n ∧ p i = true) : 0 < ((List.range n).filter p).length := by
  obtain ⟨i, hi, hp⟩ := h
  exact List.length_pos_of_mem (List.mem_filter.2 ⟨List.mem_range.2 hi, hp⟩)
theorem getD_set_true' (listed : Array Bool) (i : Nat) : (listed.setIfInBounds i true).getD i true = true := by
  rcases Nat.lt_or_ge i listed.size with h | h
  · simp [h]
  · simp
theorem count_set {listed : Array Bool} {n i : Nat} (hi : i < n) (hn : n ≤ listed.size) (hl : listed.getD i true = false) :
    ((List.range n).filter fun j => !(listed.setIfInBounds i true).getD j true).length + 1 = ((List.range n).filter fun j => !listed.getD j true).length := by
  induction n with
  | zero => omega
  | succ n ih =>
    rw [List.range_succ, List.filter_append, List.filter_append, List.length_append, List.length_append]
    by_cases e : i = n
    · subst e
      have h1 : ((List.range i).filter fun j => !(listed.setIfInBounds i true).getD j true) = (List.range i).filter fun j => !listed.getD j true :=
        List.filter_congr (fun j hj => by
          have := List.mem_range.1 hj
          rw [getD_set_ne true (by omega)])
      rw [h1]
      have h2 : (listed.setIfInBounds i true).getD i true = true := getD_set_true' _ _
      simp only [List.filter_cons, List.filter_nil, h2, hl]
      simp
    · have := ih (by omega) (by omega)
      have h2 : (listed.setIfInBounds i true).getD n true = listed.getD n true := getD_set_ne true (by omega)
      simp only [List.filter_cons, List.filter_nil, h2]
      omega

def updI' (f : Nat → Nat) (i v : Nat) : Nat → Nat := fun j => if j = i then v else f j
/-- what is owed of operation i -/
def OpF (P : Program) (Q : Exit → Act → World → Prop) (R : World → World → Prop) (F : Nat → Value → Nat → Nat → World → Prop) (D : List (List Nat)) (l : List Oper) (n : Nat) (a0 : Act) (w0 : World) (i : Nat) : Prop :=
  ∀ (ys : Nat → Value) (lo hi : Nat → Nat) (w' : World), R w0 w' → Facts F ys lo hi w' (D.getD i []) →
    wpOp P l.toArray Q i (fun a' w'' => ∃ v, a' = (fill ys 0 (l.take n) a0).put ((l[i]?).bind (·.dst)) v ∧ F i v w'.heap.size w''.heap.size w'' ∧ R w' w'') (fill ys 0 (l.take n) a0) w'
def AllOps (p : Nat → Prop) : Nat → Nat → Prop
  | _, 0 => True
  | i, k + 1 => p i ∧ AllOps p (i + 1) k
theorem AllOps.of {p : Nat → Prop} : ∀ {k i : Nat}, AllOps p i k → ∀ j, i ≤ j → j < i + k → p j
  | 0, i, _, j, h1, h2 => by omega
  | k + 1, i, h, j, h1, h2 => by
    by_cases e : j = i
    · subst e; exact h.1
    · exact AllOps.of h.2 j (by omega) (by omega)

theorem wpAny_facts {n : Nat} {R : World → World → Prop} {F : Nat → Value → Nat → Nat → World → Prop} {D : List (List Nat)} {a0 : Act} {w0 : World} {l : List Oper}
    (hn : n ≤ l.length) (hd : dstB (l.take n) = true) (hup : upB md l.toArray = true) (ht : tailB md l.toArray n = true) (hD : ∀ i, i < n → ∀ j ∈ D.getD i [], j ∈ deps md l.toArray i)
    (hT : ∀ a b c, R a b → R b c → R a c) (hS : ∀ a b, R a b → a.heap.size ≤ b.heap.size) (hF : ∀ j v s t w w', R w w' → F j v s t w → F j v s t w')
    (hops : ∀ i, i < n → OpF P Q R F D l n a0 w0 i) 
    (g : Nat) (hdone : ∀ ys lo hi w', R w0 w' → (∀ j, j < n → F j (ys j) (lo j) (hi j) w') → Spans n lo hi w0.heap.size w'.heap.size → wpAny P md l.toArray Q g (firstB l.length n) (fill ys 0 (l.take n) a0) w') :
    ∀ (f : Nat) (listed : Array Bool) (a : Act) (w : World), ((List.range n).filter fun i => !listed.getD i true).length = f → HInv md l.toArray n R F a0 w0 (l.take n) listed a w →
      wpAny P md l.toArray Q (f + g) listed a w
  | 0, listed, a, w, hf, H => by
    obtain ⟨inv, hr, ys, lo, hi, rfl, hy, hap⟩ := H
    have hall : ∀ i, i < n → listed.getD i true = true := fun i hi => by
      cases hc : listed.getD i true with
      | true => rfl
      | false => have := count_lt (p := fun i => !listed.getD i true) ⟨i, hi, by simp [hc]⟩; omega
    have hsz : l.toArray.size = l.length := by simp
    have hll : listed = firstB l.length n := by
      apply Array.ext
      · simp [firstB, inv.size]
      · intro i h1 h2
        simp only [firstB, Array.getElem_map, Array.getElem_range]
        by_cases e : i < n
        · have := hall i e
          simp [h1] at this
          simp [e, this]
        · have := inv.tail i (by omega) (by rw [← inv.size]; exact h1)
          simp [h1] at this
          simp [e, this]
    have hb : ∀ j, j < n → listed.getD j false = true := fun j hj => by
      have := hall j hj
      have h2 : j < listed.size := by rw [inv.size]; omega
      simp [h2] at this ⊢
      exact this
    rw [Nat.zero_add, hll]
    exact hdone ys lo hi w hr (fun j hj => (hy j (hb j hj)).1) ⟨fun j hj => (hy j (hb j hj)).2, fun i j h1 h2 => hap i j (hb i h1) (hb j h2)⟩
  | f + 1, listed, a, w, hf, H => by
    obtain ⟨inv, hr, ys, lo, hi', rfl, hy, hap⟩ := H
    have hsz : l.toArray.size = l.length := by simp
    rw [show f + 1 + g = (f + g) + 1 by omega]
    have hex : ∃ i, i < n ∧ listed.getD i true = false := by
      have : 0 < ((List.range n).filter fun i => !listed.getD i true).length := by omega
      obtain ⟨i, hi⟩ := List.exists_mem_of_length_pos this
      rw [List.mem_filter, List.mem_range] at hi
      exact ⟨i, hi.1, by simpa using hi.2⟩
    refine ⟨fun h0 => ?_, fun i hi => ?_⟩
    · exfalso
      obtain ⟨i, hin, hiu⟩ := hex
      have hno : ∀ m i, i ≤ m → i < n → listed.getD i true = false → False := by
        intro m
        induction m with
        | zero =>
          intro i him hin hiu
          obtain rfl : i = 0 := by omega
          have hlt : 0 < l.toArray.size := by omega
          obtain ⟨o, ho⟩ : ∃ o, l.toArray[0]? = some o := ⟨_, Array.getElem?_eq_getElem hlt⟩
          have hu := List.all_eq_true.1 hup 0 (List.mem_range.2 hlt)
          have : (0 : Nat) ∈ Region.ready md l.toArray listed := mem_ready.2 ⟨hiu, o, ho, fun e he hb => by
            rw [ho] at hu
            have := Array.all_eq_true'.1 hu e he
            simp [hb] at this⟩
          rw [h0] at this; cases this
        | succ m ih =>
          intro i him hin hiu
          have hlt : i < l.toArray.size := by omega
          obtain ⟨o, ho⟩ : ∃ o, l.toArray[i]? = some o := ⟨_, Array.getElem?_eq_getElem hlt⟩
          have hu := List.all_eq_true.1 hup i (List.mem_range.2 hlt)
          have : i ∈ Region.ready md l.toArray listed := mem_ready.2 ⟨hiu, o, ho, fun e he hb => by
            rw [ho] at hu
            have h1 := Array.all_eq_true'.1 hu e he
            simp [hb] at h1
            cases hc : listed.getD e.on false with
            | true => rfl
            | false => exact (ih e.on (by omega) (by omega) (getD_in (by rw [inv.size]; omega) hc)).elim⟩
          rw [h0] at this; cases this
      exact hno i i (Nat.le_refl _) hin hiu
    · have hin : i < n := by
        rcases Nat.lt_or_ge i n with h | h
        · exact h
        · exfalso
          obtain ⟨hiu, oi, hoi, _⟩ := mem_ready.1 hi
          have hisz := (Array.getElem?_eq_some_iff.1 hoi).1
          simp only [tailB, Bool.or_eq_true, decide_eq_true_eq, Bool.and_eq_true] at ht
          rcases ht with ht | ⟨⟨ht1, ht2⟩, ht3⟩
          · omega
          · obtain ⟨k, hk1, hk2⟩ := hex
            exact absurd hi (tail_waits ht2 ht3 ht1 inv _ k rfl hk1 hk2 i h)
      obtain ⟨hiu, oi, hoi, hall⟩ := mem_ready.1 hi
      have hd1 := depsB_ok (md := md) hoi hall inv.closed i [] (fun k hk => by cases hk)
      have hfac : Facts F ys lo hi' w (D.getD i []) := Facts.of (fun j hj => (hy j (hd1 j (hD i hin j hj))).1)
      refine wpOp_mono ?_ (hops i hin ys lo hi' w hr hfac)
      rintro a' w' ⟨v, rfl, hv, hrw⟩
      have hli : l[i]? = some oi := by simpa using hoi
      have hlt : (l.take n)[i]? = some oi := by rw [List.getElem?_take_of_lt hin]; exact hli
      have hs1 := hS _ _ hr
      have hs2 := hS _ _ hrw
      refine wpAny_facts hn hd hup ht hD hT hS hF hops g hdone f _ _ _ ?_ ⟨inv.set hi hin, hT _ _ _ hr hrw, upd ys i v, updI' lo i w.heap.size, updI' hi' i w'.heap.size, ?_, fun j hj => ?_, fun j k hj hk hjk => ?_⟩
      · have := count_set (n := n) hin (by rw [inv.size]; omega) hiu
        omega
      · rw [hli]
        have := fill_upd (ys := ys) v (l.take n) 0 a0 i oi hd hlt
        rw [Nat.zero_add] at this
        exact this
      · unfold upd updI'
        by_cases e : j = i
        · subst e; rw [if_pos rfl, if_pos rfl, if_pos rfl]; exact ⟨hv, hs1, hs2, Nat.le_refl _⟩
        · rw [if_neg e, if_neg e, if_neg e]
          rw [getD_set_ne false (Ne.symm e)] at hj
          obtain ⟨k1, k2, k3, k4⟩ := hy j hj
          exact ⟨hF _ _ _ _ _ _ hrw k1, k2, k3, Nat.le_trans k4 hs2⟩
      · unfold updI'
        by_cases e : j = i
        · subst e
          have e2 : ¬k = j := fun e2 => hjk e2.symm
          rw [if_pos rfl, if_pos rfl, if_neg e2, if_neg e2]
          rw [getD_set_ne false (Ne.symm e2)] at hk
          exact Or.inr (hy k hk).2.2.2
        · rw [if_neg e, if_neg e]
          rw [getD_set_ne false (Ne.symm e)] at hj
          by_cases e2 : k = i
          · subst e2
            rw [if_pos rfl, if_pos rfl]
            exact Or.inl (hy j hj).2.2.2
          · rw [if_neg e2, if_neg e2]
            rw [getD_set_ne false (Ne.symm e2)] at hk
            exact hap j k hj hk hjk

def factsB (md : Region.Mode) (l : List Oper) (n : Nat) (D : List (List Nat)) (J : List Nat) : Bool :=
  decide (n ≤ l.length) && dstB (l.take n) && upB md l.toArray && tailB md l.toArray n && Region.seqB md l.toArray (l.length - n) n (firstB l.length n) &&
    (List.range n).all (fun i => (D.getD i []).all (fun j => (deps md l.toArray i).contains j)) && J.all (fun j => decide (j < n))
theorem wp_region_facts {id : Nat} {Q : Exit → Act → World → Prop} {a : Act} {w : World} {l : List Oper} (n : Nat) (D : List (List Nat)) (J : List Nat) (R : World → World → Prop) (F : Nat → Value → Nat → Nat → World → Prop) (hm : P.follows .mixedOrders = true)
    (hB : factsB .any l n D J = true) (hR : ∀ w, R w w) (hT : ∀ a b c, R a b → R b c → R a c) (hS : ∀ a b, R a b → a.heap.size ≤ b.heap.size) (hF : ∀ j v s t w w', R w w' → F j v s t w → F j v s t w')
    (hops : AllOps (OpF P Q R F D l n a w.drew) 0 n)
    (hdone : ∀ ys lo hi w', R w.drew w' → Facts F ys lo hi w' J → Spans n lo hi w.heap.size w'.heap.size → wpList P l.toArray Q (l.drop n) (fill ys 0 (l.take n) a) w') : (Code.region id l.toArray true).wp P Q a w := by
  simp only [factsB, Bool.and_eq_true, decide_eq_true_eq] at hB
  obtain ⟨⟨⟨⟨⟨⟨h1, h2⟩, h3⟩, h4⟩, h5⟩, h6⟩, h7⟩ := hB
  refine wp_region_any hm ?_
  have hsz : l.toArray.size = l.length := by simp
  have key := wpAny_facts (P := P) (Q := Q) (md := .any) (n := n) (R := R) (F := F) (D := D) (a0 := a) (w0 := w.drew) (l := l) h1 h2 h3 h4
    (fun i hi j hj => by have := List.all_eq_true.1 (List.all_eq_true.1 h6 i (List.mem_range.2 hi)) j hj; simpa using this) hT hS hF (fun i hi => AllOps.of hops i (Nat.zero_le _) (by omega)) (l.length - n)
    (fun ys lo hi w' hr hf hsp => by
      have hdl : (l.drop n).length = l.length - n := by simp
      have := wpAny_of_seq (md := .any) (Q' := Q) (P := P) (ops := l.toArray) (l.drop n) n (firstB l.length n) (fill ys 0 (l.take n) a) w' (fun j => by simp [List.getElem?_drop]) (by rw [hdl]; exact h5) (hdone ys lo hi w' hr (Facts.of (fun j hj => hf j (by simpa using List.all_eq_true.1 h7 j hj))) hsp)
      rw [hdl] at this
      exact this)
    n (Array.replicate l.length false) a w.drew ?_ ?_
  · have e : n + (l.length - n) = l.toArray.size := by simp; omega
    rw [e] at key
    rw [hsz]
    rw [hsz] at key
    exact key
  · have : ((List.range n).filter fun i => !(Array.replicate l.length false).getD i true) = List.range n := List.filter_eq_self.2 (fun i hi => by
      have := List.mem_range.1 hi
      have h : i < l.length := by omega
      simp [h])
    rw [this, List.length_range]
  · refine ⟨⟨by simp, fun j oj _ hl => (by rw [getD_replicate_false] at hl; cases hl), fun t _ ht => getD_in (by simpa using ht) (getD_replicate_false _ _)⟩, hR _, ys0 (l.take n) a, fun _ => 0, fun _ => 0, (fill_same _ 0 a (fun j o d hj hd => ?_)).symm, fun j hj => (by rw [getD_replicate_false] at hj; cases hj), fun j _ hj => (by rw [getD_replicate_false] at hj; cases hj)⟩
    rw [Nat.zero_add]
    simp only [ys0, hj, Option.bind_some, hd]

/-- operation i, laid open -/
structure OpB (P : Program) (Q : Exit → Act → World → Prop) (ops : Array Oper) (a : Act) (w : World) (K : Act → World → Prop) (o? : Option Oper) : Prop where
  out : ∃ o, o? = some o ∧ if Region.wanted o (yielded ops a.tmps) = true then Oper.wp P o a w K Q else K (a.put o.dst undef) w
theorem OpB.mk' {ops : Array Oper} {a : Act} {w : World} {K : Act → World → Prop} {o : Oper} (h : if Region.wanted o (yielded ops a.tmps) = true then Oper.wp P o a w K Q else K (a.put o.dst undef) w) : OpB P Q ops a w K (some o) := ⟨o, rfl, h⟩
def dstO : Option Oper → Option Tmp
  | none => none
  | some o => o.dst
theorem opF_step {R : World → World → Prop} {F : Nat → Value → Nat → Nat → World → Prop} {D : List (List Nat)} {l : List Oper} {n i : Nat} {a0 : Act} {w0 : World}
    (h : ∀ (ys : Nat → Value) (lo hi : Nat → Nat) (w' : World), R w0 w' → Facts F ys lo hi w' (D.getD i []) → ∀ K : Act → World → Prop,
      Hid (∀ v w'', F i v w'.heap.size w''.heap.size w'' → R w' w'' → K ((fill ys 0 (l.take n) a0).put (dstO l[i]?) v) w'') →
      OpB P Q l.toArray (fill ys 0 (l.take n) a0) w' K l[i]?) : OpF P Q R F D l n a0 w0 i := by
  intro ys lo hi w' hr hf
  cases ho : l[i]? with
  | none =>
    obtain ⟨o, h1, -⟩ := (h ys lo hi w' hr hf (fun _ _ => True) (Lib.hid (fun _ _ _ _ => trivial))).out
    rw [ho] at h1; cases h1
  | some o =>
    refine wpOp_step (o := o) (by simpa using ho) (fun K hK => ?_)
    obtain ⟨o', h1, h2⟩ := (h ys lo hi w' hr hf K (Lib.hid (fun v w'' h1 h2 => by rw [ho]; exact hK _ _ ⟨v, rfl, h1, h2⟩))).out
    rw [ho] at h1; cases h1
    exact h2
/-- the value of a read -/
def Is (c v : Value) (_ _ : Nat) (_ : World) : Prop := v = c
def FL (L : List (Value → Nat → Nat → World → Prop)) (j : Nat) : Value → Nat → Nat → World → Prop := L.getD j (fun _ _ _ _ => True)
def AllF (p : (Value → Nat → Nat → World → Prop) → Prop) : List (Value → Nat → Nat → World → Prop) → Prop
  | [] => True
  | q :: L => p q ∧ AllF p L
theorem FL.mono {R : World → World → Prop} : ∀ {L : List (Value → Nat → Nat → World → Prop)}, AllF (fun p => ∀ v s t w w', R w w' → p v s t w → p v s t w') L → ∀ j v s t w w', R w w' → FL L j v s t w → FL L j v s t w'
  | [], _, _, _, _, _, _, _, _, h => h
  | _ :: _, hL, 0, v, s, t, w, w', hr, h => hL.1 v s t w w' hr h
  | _ :: L, hL, j + 1, v, s, t, w, w', hr, h => FL.mono (L := L) hL.2 j v s t w w' hr h
theorem Is.mono {R : World → World → Prop} {c : Value} : ∀ v s t w w', R w w' → Is c v s t w → Is c v s t w' := fun _ _ _ _ _ _ h => h
end
end Go.Proofs.Ytppncdbhebgcaaa
