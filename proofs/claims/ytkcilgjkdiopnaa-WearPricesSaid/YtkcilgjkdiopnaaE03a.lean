/- The data of package wear, as Lean sees it, and how they lie in memory. -/
import Derived.Test.YtkcilgjkdiopnaaRng
namespace Go.Proofs.Ytkcilgjkdiopnaa
open Go.RowKit

structure Rec where
  worn : Int
  limit : Int
  price : Int
  plays : List Int

structure Wr where
  weeks : Int
  price : Int
  age : Int
  step : Int
  rough : List Int
  recs : List Rec

structure Wk where
  needle : Int
  recs : List Int

/-- a slice of records -/
def RecsAt (w : World) (p : Option Addr) (l : List Rec) : Prop :=
  ∀ i (h : i < l.length), ∃ b o q c, p = some ⟨b, o, none⟩ ∧ w.cell? ⟨b, o + i * 4, none⟩ = some (.int .i64 l[i].worn) ∧ w.cell? ⟨b, o + i * 4 + 1, none⟩ = some (.int .i64 l[i].limit) ∧
    w.cell? ⟨b, o + i * 4 + 2, none⟩ = some (.int .i64 l[i].price) ∧ w.cell? ⟨b, o + i * 4 + 3, none⟩ = some (.slice q l[i].plays.length c) ∧ IntsAt w q l[i].plays
theorem RecsAt.ext {w w' : World} {p : Option Addr} {l : List Rec} (h : RecsAt w p l) (hE : Ext w w') : RecsAt w' p l := by
  intro i hi
  obtain ⟨b, o, q, c, hp, h1, h2, h3, h4, h5⟩ := h i hi
  exact ⟨b, o, q, c, hp, hE.cell h1, hE.cell h2, hE.cell h3, hE.cell h4, h5.ext hE⟩
theorem RecsAt.nil (w : World) (p : Option Addr) : RecsAt w p [] := fun i h => absurd h (by simp)

/-- a slice of weeks of a plan -/
def WksAt (w : World) (p : Option Addr) (l : List Wk) : Prop :=
  ∀ i (h : i < l.length), ∃ b o q c, p = some ⟨b, o, none⟩ ∧ w.cell? ⟨b, o + i * 2, none⟩ = some (.int .i64 l[i].needle) ∧ w.cell? ⟨b, o + i * 2 + 1, none⟩ = some (.slice q l[i].recs.length c) ∧ IntsAt w q l[i].recs
theorem WksAt.ext {w w' : World} {p : Option Addr} {l : List Wk} (h : WksAt w p l) (hE : Ext w w') : WksAt w' p l := by
  intro i hi
  obtain ⟨b, o, q, c, hp, h1, h2, h3⟩ := h i hi
  exact ⟨b, o, q, c, hp, hE.cell h1, hE.cell h2, h3.ext hE⟩

/-- a box by value -/
def WrV (w : World) (v : Value) (X : Wr) : Prop := ∃ p c q d,
  v = .agg #[.int .i64 X.weeks, .int .i64 X.price, .int .i64 X.age, .int .i64 X.step, .slice p X.rough.length c, .slice q X.recs.length d] ∧ IntsAt w p X.rough ∧ RecsAt w q X.recs
theorem WrV.mono : Mono WrV := by
  rintro w w' v X hE ⟨p, c, q, d, rfl, h1, h2⟩
  exact ⟨p, c, q, d, rfl, h1.ext hE, h2.ext hE⟩
/-- a week of a plan by value -/
def WkV (w : World) (v : Value) (x : Wk) : Prop := ∃ q c, v = .agg #[.int .i64 x.needle, .slice q x.recs.length c] ∧ IntsAt w q x.recs
theorem WkV.mono : Mono WkV := by
  rintro w w' v X hE ⟨q, c, rfl, h2⟩
  exact ⟨q, c, rfl, h2.ext hE⟩
/-- a record by value -/
def RecV (w : World) (v : Value) (x : Rec) : Prop := ∃ q c, v = .agg #[.int .i64 x.worn, .int .i64 x.limit, .int .i64 x.price, .slice q x.plays.length c] ∧ IntsAt w q x.plays
theorem RecV.mono : Mono RecV := by
  rintro w w' v X hE ⟨q, c, rfl, h2⟩
  exact ⟨q, c, rfl, h2.ext hE⟩

/-- a record that is right for so many weeks -/
structure ROK (n : Int) (r : Rec) : Prop where
  worn : 0 ≤ r.worn ∧ r.worn ≤ 99999
  limit : 0 ≤ r.limit ∧ r.limit ≤ 99999
  price : 0 ≤ r.price ∧ r.price ≤ 999
  len : (r.plays.length : Int) = n
  play : ∀ k (h : k < r.plays.length), 0 ≤ r.plays[k] ∧ r.plays[k] ≤ 99

structure ValidW (X : Wr) : Prop where
  weeks : 0 ≤ X.weeks ∧ X.weeks ≤ 6
  age : 0 ≤ X.age ∧ X.age ≤ 9999
  step : 1 ≤ X.step ∧ X.step ≤ 999
  price : 0 ≤ X.price ∧ X.price ≤ 999
  rough : 1 ≤ (X.rough.length : Int) ∧ (X.rough.length : Int) ≤ 8
  recs : X.recs.length ≤ 4
  rg : ∀ i (h : i < X.rough.length), 0 ≤ X.rough[i] ∧ X.rough[i] ≤ 99
  up : ∀ i (h : i + 1 < X.rough.length), X.rough[i] ≤ X.rough[i+1]
  rc : ∀ i (h : i < X.recs.length), ROK X.weeks X.recs[i]

/-- lists that are not too long to be walked over -/
structure ModestW (X : Wr) : Prop where
  rough : X.rough.length ≤ 100000
  recs : X.recs.length ≤ 100000
  plays : ∀ i (h : i < X.recs.length), X.recs[i].plays.length ≤ 100000

noncomputable def chkW (X : Wr) : Int := if bP (ValidW X) = true then 0 else 30
theorem chkW_t {X : Wr} (h : ValidW X) : chkW X = 0 := by rw [chkW, if_pos (bP_t h)]
theorem chkW_f {X : Wr} (h : ¬ValidW X) : chkW X = 30 := by rw [chkW, if_neg (by rw [bP_f h]; simp)]
theorem chkW_30 {X : Wr} (h : ¬ValidW X) {v : Value} (hv : v = .int .i64 30) : v = .int .i64 (chkW X) := by rw [hv, chkW_f h]

theorem cell_of_heap {w : World} {b : Nat} {cs : Array Value} {t : TypeId} {f : Nat × Nat} (h : w.heap[b]? = some (.cells cs t f)) (o : Nat) : w.cell? ⟨b, o, none⟩ = cs[o]? := by
  simp [World.cell?, h]
theorem heap_new (w : World) (o : Obj) : (w.alloc o).heap[w.heap.size]? = some o := by
  show (w.heap.push o)[w.heap.size]? = some o
  simp
theorem heap_new1 (w : World) (o u : Obj) : ((w.alloc o).alloc u).heap[w.heap.size]? = some o := by
  rw [Below.heap_alloc _ _ _ (by simp), heap_new]
theorem heap_new2 (w : World) (o u : Obj) : ((w.alloc o).alloc u).heap[w.heap.size + 1]? = some u := by
  have := heap_new (w.alloc o) u
  rwa [World.size_alloc] at this
theorem cell_frozen {w : World} {B : Nat} {cs : Array Value} {t : TypeId} (h : w.heap[B]? = some (.cells cs t (0, 0))) (k : Nat) : w.frozen? ⟨B, k, none⟩ = false := by
  simp [World.frozen?, h]
theorem heap_set6 {W : World} {B : Nat} {a0 a1 a2 a3 a4 a5 u0 u1 u2 u3 u4 u5 : Value} {t : TypeId} {f : Nat × Nat} (h : W.heap[B]? = some (.cells #[a0, a1, a2, a3, a4, a5] t f)) :
    ((((((W.setCell ⟨B, 0, none⟩ u0).setCell ⟨B, 1, none⟩ u1).setCell ⟨B, 2, none⟩ u2).setCell ⟨B, 3, none⟩ u3).setCell ⟨B, 4, none⟩ u4).setCell ⟨B, 5, none⟩ u5).heap[B]? = some (.cells #[u0, u1, u2, u3, u4, u5] t f) :=
  heap_set (heap_set (heap_set (heap_set (heap_set (heap_set h rfl) rfl) rfl) rfl) rfl) rfl
theorem heap_set2 {W : World} {B : Nat} {a0 a1 u0 u1 : Value} {t : TypeId} {f : Nat × Nat} (h : W.heap[B]? = some (.cells #[a0, a1] t f)) :
    ((W.setCell ⟨B, 0, none⟩ u0).setCell ⟨B, 1, none⟩ u1).heap[B]? = some (.cells #[u0, u1] t f) := heap_set (heap_set h rfl) rfl
theorem Ext.trans' {a b c : World} (h : Ext a b) (k : Below a.heap.size b c) : Ext a c := Below.trans h k
theorem Ext.set {a b : World} {c o : Nat} {u : Value} (h : Ext a b) (h0 : a.heap.size ≤ c) : Ext a (b.setCell ⟨c, o, none⟩ u) := h.setCell (p := ⟨c, o, none⟩) h0 u
def cellI (n : Int) : Obj := .cells #[.int .i64 n] 3

/-- the cells of a box -/
def wrCells (X : Wr) (p : Option Addr) (c : Nat) (q : Option Addr) (d : Nat) : Array Value :=
  #[.int .i64 X.weeks, .int .i64 X.price, .int .i64 X.age, .int .i64 X.step, .slice p X.rough.length c, .slice q X.recs.length d]
theorem RetE.of {P : Prop} {b : Bool} {w w' : World} (hw : Ext w w') (h : b = true ↔ P) : RetE (.bool (bP P)) w (.returned (.bool b)) w' := ⟨by rw [Bool.eq_iff_iff.2 (h.trans bP_iff.symm)], hw⟩
theorem RetQ.of {P : Prop} {b : Bool} {w w' : World} (hw : Qt w w') (h : b = true ↔ P) : RetQ (.bool (bP P)) w (.returned (.bool b)) w' := ⟨by rw [Bool.eq_iff_iff.2 (h.trans bP_iff.symm)], hw⟩

def IdxPost (p : Prop) (w : World) (e : Ending) (w' : World) : Prop := ∃ n : Int, e = .returned (.int .i64 n) ∧ (0 ≤ n ↔ p) ∧ Ext w w'
end Go.Proofs.Ytkcilgjkdiopnaa
