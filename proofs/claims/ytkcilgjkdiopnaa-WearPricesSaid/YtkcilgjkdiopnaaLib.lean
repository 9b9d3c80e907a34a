/- Small plain lemmas on worlds, on slices that read as lists, and on what a call leaves alone. No program in sight. -/
import Derived.WalkKit
import Derived.WalkSpells
import Derived.WalkLawsBesides
import Derived.Lib.Hide
import Derived.Deep.QuietTactic
import Derived.BigQuiet
import Derived.Deep.Cut
import Derived.Deep.CutBlock
namespace Go.Proofs.Ytkcilgjkdiopnaa
open Go.RowKit

/-- the later world has all that the earlier one had -/
def Ext (w w' : World) : Prop := Below w.heap.size w w'
theorem Ext.refl (w : World) : Ext w w := Below.refl _ _
theorem Ext.trans {a b c : World} (h : Ext a b) (k : Ext b c) : Ext a c := Below.trans h (Below.mono k (Below.size h))
theorem Ext.alloc {a w : World} (h : Ext a w) (o : Obj) : Ext a (w.alloc o) := Below.alloc h (Below.size h) o
theorem Ext.drew {a w : World} (h : Ext a w) : Ext a w.drew := Below.drew h
theorem Ext.setCell {a w : World} (h : Ext a w) {p : Addr} (hp : a.heap.size ≤ p.block) (u : Value) : Ext a (w.setCell p u) := Below.setCell h hp u
theorem Ext.size {a w : World} (h : Ext a w) : a.heap.size ≤ w.heap.size := Below.size h

theorem lt_of_cell {w : World} {b o : Nat} {v : Value} (h : w.cell? ⟨b, o, none⟩ = some v) : b < w.heap.size := by
  unfold World.cell? at h
  cases hb : w.heap[b]? with
  | none => simp [hb] at h
  | some x => exact (Array.getElem?_eq_some_iff.1 hb).1

theorem Ext.cell {a w : World} (h : Ext a w) {b o : Nat} {v : Value} (hc : a.cell? ⟨b, o, none⟩ = some v) : w.cell? ⟨b, o, none⟩ = some v :=
  (Below.cell h (p := ⟨b, o, none⟩) (lt_of_cell hc)).trans hc

/-- the two rules of a walk behind a call -/
theorem Ext.rules {W w1 : World} (hb : Ext W w1) : (∀ b o, b < W.heap.size → w1.cell? ⟨b, o, none⟩ = W.cell? ⟨b, o, none⟩) ∧ (∀ b o, b < W.heap.size → w1.frozen? ⟨b, o, none⟩ = W.frozen? ⟨b, o, none⟩) :=
  ⟨fun b o h => Below.cell hb (p := ⟨b, o, none⟩) h, fun b o h => Below.frozen hb (p := ⟨b, o, none⟩) h⟩

/-- a slice at p whose elements (one cell each) read by R as the list l -/
def SlAt {α : Type} (R : World → Value → α → Prop) (w : World) (p : Option Addr) (l : List α) : Prop :=
  ∀ i (h : i < l.length), ∃ b o v, p = some ⟨b, o, none⟩ ∧ w.cell? ⟨b, o + i, none⟩ = some v ∧ R w v l[i]

def Mono {α : Type} (R : World → Value → α → Prop) : Prop := ∀ w w' v x, Ext w w' → R w v x → R w' v x

theorem SlAt.ext {α : Type} {R : World → Value → α → Prop} (hR : Mono R) {w w' : World} {p : Option Addr} {l : List α} (h : SlAt R w p l) (hE : Ext w w') : SlAt R w' p l := by
  intro i hi
  obtain ⟨b, o, v, hp, hc, hv⟩ := h i hi
  exact ⟨b, o, v, hp, hE.cell hc, hR _ _ _ _ hE hv⟩

/-- an int -/
def IntR (_ : World) (v : Value) (n : Int) : Prop := v = .int .i64 n
theorem IntR.mono : Mono IntR := fun _ _ _ _ _ h => h

/-- ints -/
def IntsAt (w : World) (p : Option Addr) (l : List Int) : Prop := SlAt IntR w p l
theorem IntsAt.ext {w w' : World} {p : Option Addr} {l : List Int} (h : IntsAt w p l) (hE : Ext w w') : IntsAt w' p l := SlAt.ext IntR.mono h hE
theorem IntsAt.at {w : World} {p : Option Addr} {l : List Int} (h : IntsAt w p l) (i : Nat) (hi : i < l.length) :
    ∃ b o, p = some ⟨b, o, none⟩ ∧ w.cell? ⟨b, o + i, none⟩ = some (.int .i64 l[i]) := by
  obtain ⟨b, o, v, hp, hc, rfl⟩ := h i hi
  exact ⟨b, o, hp, hc⟩
theorem IntsAt.nil (w : World) (p : Option Addr) : IntsAt w p [] := fun i h => absurd h (by simp)

/-- a value that is a slice of ints -/
def IntsV (w : World) (v : Value) (l : List Int) : Prop := ∃ p c, v = .slice p l.length c ∧ IntsAt w p l
theorem IntsV.mono : Mono IntsV := by
  rintro w w' v x hE ⟨p, c, rfl, h⟩
  exact ⟨p, c, rfl, h.ext hE⟩

/-- lists of ints -/
def ListsAt (w : World) (p : Option Addr) (l : List (List Int)) : Prop := SlAt IntsV w p l
theorem ListsAt.ext {w w' : World} {p : Option Addr} {l : List (List Int)} (h : ListsAt w p l) (hE : Ext w w') : ListsAt w' p l := SlAt.ext IntsV.mono h hE
theorem ListsAt.at {w : World} {p : Option Addr} {l : List (List Int)} (h : ListsAt w p l) (i : Nat) (hi : i < l.length) :
    ∃ b o q c, p = some ⟨b, o, none⟩ ∧ w.cell? ⟨b, o + i, none⟩ = some (.slice q (l[i].length) c) ∧ IntsAt w q l[i] := by
  obtain ⟨b, o, v, hp, hc, q, c, rfl, hq⟩ := h i hi
  exact ⟨b, o, q, c, hp, hc, hq⟩

def ListsV (w : World) (v : Value) (l : List (List Int)) : Prop := ∃ p c, v = .slice p l.length c ∧ ListsAt w p l
theorem ListsV.mono : Mono ListsV := by
  rintro w w' v x hE ⟨p, c, rfl, h⟩
  exact ⟨p, c, rfl, h.ext hE⟩

/-- a slice of pairs of ints (two cells each) -/
def PairsAt (w : World) (p : Option Addr) (l : List (Int × Int)) : Prop :=
  ∀ i (h : i < l.length), ∃ b o, p = some ⟨b, o, none⟩ ∧ w.cell? ⟨b, o + i * 2, none⟩ = some (.int .i64 l[i].1) ∧ w.cell? ⟨b, o + i * 2 + 1, none⟩ = some (.int .i64 l[i].2)
theorem PairsAt.ext {w w' : World} {p : Option Addr} {l : List (Int × Int)} (h : PairsAt w p l) (hE : Ext w w') : PairsAt w' p l := by
  intro i hi
  obtain ⟨b, o, hp, hc, hd⟩ := h i hi
  exact ⟨b, o, hp, hE.cell hc, hE.cell hd⟩
theorem PairsAt.nil (w : World) (p : Option Addr) : PairsAt w p [] := fun i h => absurd h (by simp)

/-- the later worlds of a -/
structure ExtW (a : World) where
  w : World
  h : Ext a w
instance (a : World) : Nonempty (ExtW a) := ⟨⟨a, Ext.refl a⟩⟩
theorem ExtW.of {a w : World} (h : Ext a w) : ∃ x : ExtW a, w = x.w := ⟨⟨w, h⟩, rfl⟩
theorem ExtW.cell {a : World} {b o : Nat} {v : Value} (hc : a.cell? ⟨b, o, none⟩ = some v) (x : ExtW a) : x.w.cell? ⟨b, o, none⟩ = some v := x.h.cell hc
/-- v is returned; what was there is as it was -/
def RetE (v : Value) (w : World) (e : Ending) (w' : World) : Prop := e = .returned v ∧ Ext w w'
theorem RetE.fin {v v' : Value} {w w' : World} (hw : Ext w w') (h : v' = v) : RetE v w (.returned v') w' := ⟨by rw [h], hw⟩
theorem ExtW.call {a : World} {P : Program} {f : FuncId} {args : Array Value} {v : Value} {x : ExtW a} (h : Calls P f args x.w (RetE v x.w)) :
    Calls P f args x.w fun e w'' => e = .returned v ∧ ∃ y : ExtW a, w'' = y.w :=
  h.mono fun _ w' ⟨he, hw⟩ => ⟨he, ⟨w', x.h.trans hw⟩, rfl⟩
theorem wp_region_ext {P : Program} {id : Nat} {Q : Exit → Act → World → Prop} {a : Act} {w : World} {l : List Oper} (hm : P.follows .mixedOrders = true) (hB : Region.lexB .any l.toArray = true)
    (h : wpQuiet P l.toArray (fun w' => ∃ x : ExtW w, w' = x.w) (fun a' => ∀ w', (∃ x : ExtW w, w' = x.w) → Q .normal a' w') l a) : (Code.region id l.toArray true).wp P Q a w :=
  wp_region_quiet (C := fun w' => ∃ x : ExtW w, w' = x.w) hm hB (ExtW.of ((Ext.refl w).drew)) (by simpa using h)
/-- the same over an earlier world -/
theorem wp_region_extW {P : Program} {id : Nat} {Q : Exit → Act → World → Prop} {a : Act} {w0 : World} {x : ExtW w0} {l : List Oper} (hm : P.follows .mixedOrders = true) (hB : Region.lexB .any l.toArray = true)
    (h : wpQuiet P l.toArray (fun w' => ∃ x : ExtW w0, w' = x.w) (fun a' => ∀ w', (∃ x : ExtW w0, w' = x.w) → Q .normal a' w') l a) : (Code.region id l.toArray true).wp P Q a x.w :=
  wp_region_quiet (C := fun w' => ∃ x : ExtW w0, w' = x.w) hm hB (ExtW.of x.h.drew) (by simpa using h)

theorem ret_bool {a b : Bool} (h : a = b) : Ending.returned (.bool a) = .returned (.bool b) := by rw [h]
theorem ret_int {k : IntKind} {a b : Int} (h : a = b) : Ending.returned (.int k a) = .returned (.int k b) := by rw [h]

/-! plain lists -/
def winB (n lo hi : Int) : Bool := decide (lo ≤ n) && decide (n ≤ hi)
def inL (l : List Int) (n : Int) : Bool := l.any (· == n)
theorem inL_iff (l : List Int) (n : Int) : inL l n = true ↔ n ∈ l := by simp [inL]
theorem any_take_succ {α : Type} (f : α → Bool) (l : List α) (k : Nat) (h : k < l.length) : (l.take (k+1)).any f = ((l.take k).any f || f l[k]) := by
  rw [List.take_succ_eq_append_getElem h]; simp only [List.any_append, List.any_cons, List.any_nil, Bool.or_false]
theorem all_take_succ {α : Type} (f : α → Bool) (l : List α) (k : Nat) (h : k < l.length) : (l.take (k+1)).all f = ((l.take k).all f && f l[k]) := by
  rw [List.take_succ_eq_append_getElem h]; simp only [List.all_append, List.all_cons, List.all_nil, Bool.and_true]
theorem any_of_get {α : Type} (f : α → Bool) (l : List α) (k : Nat) (h : k < l.length) (hf : f l[k] = true) : l.any f = true := by
  rw [List.any_eq_true]; exact ⟨_, List.getElem_mem h, hf⟩
theorem all_false_of_get {α : Type} (f : α → Bool) (l : List α) (k : Nat) (h : k < l.length) (hf : f l[k] = false) : l.all f = false := by
  rw [List.all_eq_false]; exact ⟨_, List.getElem_mem h, by simp [hf]⟩

/-- strictly ascending, each from lo to hi -/
def Rises (l : List Int) (lo hi : Int) : Prop := (∀ i (h : i < l.length), lo ≤ l[i] ∧ l[i] ≤ hi) ∧ ∀ i (h : i + 1 < l.length), l[i] < l[i+1]

/-- the bool of a proposition -/
noncomputable def bP (P : Prop) : Bool := @decide P (Classical.propDecidable P)
theorem bP_iff {P : Prop} : bP P = true ↔ P := by simp [bP]
theorem bP_t {P : Prop} (h : P) : bP P = true := bP_iff.2 h
theorem bP_f {P : Prop} (h : ¬P) : bP P = false := by simp [bP, h]

/-- v is returned; nothing but draws has happened -/
def RetQ (v : Value) (w : World) (e : Ending) (w' : World) : Prop := e = .returned v ∧ ∃ m, w' = w.drewN m
theorem RetQ.mk {v : Value} {w : World} (m : Nat) : RetQ v w (.returned v) (w.drewN m) := ⟨rfl, m, rfl⟩
theorem RetQ.mk0 {v : Value} {w : World} : RetQ v w (.returned v) w := ⟨rfl, 0, rfl⟩
theorem RetQ.t {P : Prop} {w : World} (h : P) (m : Nat) : RetQ (.bool (bP P)) w (.returned (.bool true)) (w.drewN m) := ⟨by rw [bP_t h], m, rfl⟩
theorem RetQ.f {P : Prop} {w : World} (h : ¬P) (m : Nat) : RetQ (.bool (bP P)) w (.returned (.bool false)) (w.drewN m) := ⟨by rw [bP_f h], m, rfl⟩
theorem RetQ.t0 {P : Prop} {w : World} (h : P) : RetQ (.bool (bP P)) w (.returned (.bool true)) w := ⟨by rw [bP_t h], 0, rfl⟩
theorem RetQ.f0 {P : Prop} {w : World} (h : ¬P) : RetQ (.bool (bP P)) w (.returned (.bool false)) w := ⟨by rw [bP_f h], 0, rfl⟩
def Qt (w w' : World) : Prop := ∃ m, w' = w.drewN m
theorem Qt.refl (w : World) : Qt w w := ⟨0, rfl⟩
theorem Qt.drewN {w x : World} (h : Qt w x) (n : Nat) : Qt w (x.drewN n) := by obtain ⟨m, rfl⟩ := h; exact ⟨m + n, World.drewN_drewN _ _ _⟩
theorem Qt.drew {w x : World} (h : Qt w x) : Qt w x.drew := h.drewN 1
theorem RetQ.tt {P : Prop} {w w' : World} (hw : Qt w w') (h : P) : RetQ (.bool (bP P)) w (.returned (.bool true)) w' := ⟨by rw [bP_t h], hw⟩
theorem RetQ.ff {P : Prop} {w w' : World} (hw : Qt w w') (h : ¬P) : RetQ (.bool (bP P)) w (.returned (.bool false)) w' := ⟨by rw [bP_f h], hw⟩
theorem RetQ.fin {v v' : Value} {w w' : World} (hw : Qt w w') (h : v' = v) : RetQ v w (.returned v') w' := ⟨by rw [h], hw⟩
theorem Qt.ext {w x : World} (h : Qt w x) : Ext w x := by obtain ⟨m, rfl⟩ := h; exact ⟨rfl, rfl, rfl, Nat.le_refl _, fun _ _ => rfl⟩
theorem Qt.trans {a b c : World} (h : Qt a b) (k : Qt b c) : Qt a c := by obtain ⟨m, rfl⟩ := k; exact h.drewN m
theorem RetQ.from {v : Value} {w w1 : World} {e : Ending} {w' : World} (h : RetQ v w1 e w') (hQ : Qt w w1) : RetQ v w e w' := ⟨h.1, hQ.trans h.2⟩
theorem RetQ.e {v : Value} {w : World} {P : Program} {f : FuncId} {args : Array Value} (h : Calls P f args w (RetQ v w)) : Calls P f args w (RetE v w) := h.mono fun _ _ ⟨he, hq⟩ => ⟨he, Qt.ext hq⟩
theorem RetQ.bt {P : Program} {f : FuncId} {args : Array Value} {w : World} {p : Prop} (h : p) (hc : Calls P f args w (RetQ (.bool (bP p)) w)) : Calls P f args w (RetQ (.bool true) w) := by
  rwa [bP_t h] at hc
theorem RetQ.bf {P : Program} {f : FuncId} {args : Array Value} {w : World} {p : Prop} (h : ¬p) (hc : Calls P f args w (RetQ (.bool (bP p)) w)) : Calls P f args w (RetQ (.bool false) w) := by
  rwa [bP_f h] at hc
theorem RetE.tt {P : Prop} {w w' : World} (hw : Ext w w') (h : P) : RetE (.bool (bP P)) w (.returned (.bool true)) w' := ⟨by rw [bP_t h], hw⟩
theorem RetE.ff {P : Prop} {w w' : World} (hw : Ext w w') (h : ¬P) : RetE (.bool (bP P)) w (.returned (.bool false)) w' := ⟨by rw [bP_f h], hw⟩
theorem RetE.bt {P : Program} {f : FuncId} {args : Array Value} {w : World} {p : Prop} (h : p) (hc : Calls P f args w (RetE (.bool (bP p)) w)) : Calls P f args w (RetE (.bool true) w) := by
  rwa [bP_t h] at hc
theorem RetE.bf {P : Program} {f : FuncId} {args : Array Value} {w : World} {p : Prop} (h : ¬p) (hc : Calls P f args w (RetE (.bool (bP p)) w)) : Calls P f args w (RetE (.bool false) w) := by
  rwa [bP_f h] at hc
theorem RetQ.quiet {P : Program} {f : FuncId} {args : Array Value} {w : World} {n : Nat} {v : Value}
    (h : Calls P f args (w.drewN n) (RetQ v (w.drewN n))) : Calls P f args (w.drewN n) fun e w'' => e = .returned v ∧ ∃ m, w'' = w.drewN m := Calls.quiet_of h
theorem IntsAt.drewN {w : World} {p : Option Addr} {l : List Int} (h : IntsAt w p l) (n : Nat) : IntsAt (w.drewN n) p l := h
theorem ListsAt.drewN {w : World} {p : Option Addr} {l : List (List Int)} (h : ListsAt w p l) (n : Nat) : ListsAt (w.drewN n) p l := h
end Go.Proofs.Ytkcilgjkdiopnaa
