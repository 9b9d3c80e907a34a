
/- Trays: the data, and the walks of the reference's IsSide, IsTime, presses, Check. Trays: the walks of the reference's presses and Check. The carriage of a tray: what it does at a position, and that it stands still in the end: plain law, without a program. Trays: the walks of isSide, isTime, Check (of a valid tray), last. Trays: a carriage in memory. Trays: the walk of mark. Trays: the walks of next and press of a carriage. Trays: the walks of press of a carriage. Trays: the walk of act of a carriage. Trays: the walk of act of a carriage. Presses sorted by their times: insertion sort. Presses copied. -/
import Derived.Test.YtppncdbhebgcaaaXK
import Derived.Test.YtppncdbhebgcaaaVA
import Derived.Test.YtppncdbhebgcaaaCD
import Derived.Deep.AppendLies
namespace Go.Proofs.Ytppncdbhebgcaaa
open Go.RowKit

structure TrayD where
  recs : List (Int × Int)
  at_ : Int
  way : Int
  step : Int
  prs : List (Int × Int)
/-- a tray -/
def TyV (w : World) (v : Value) (T : TrayD) : Prop := ∃ p c q d, v = .agg #[.slice p T.recs.length c, .int .i64 T.at_, .int .i64 T.way, .int .i64 T.step, .slice q T.prs.length d] ∧ PairsAt w p T.recs ∧ PairsAt w q T.prs
theorem TyV.ext {w w' : World} {v : Value} {T : TrayD} (h : TyV w v T) (hE : Ext w w') : TyV w' v T := by
  obtain ⟨p, c, q, d, e, h1, h2⟩ := h
  exact ⟨p, c, q, d, e, h1.ext hE, h2.ext hE⟩
end Go.Proofs.Ytppncdbhebgcaaa
namespace Go.Proofs.Ytppncdbhebgcaaa
open Go.RowKit

end Go.Proofs.Ytppncdbhebgcaaa
namespace Go.Proofs.Ytppncdbhebgcaaa

structure Car where
  queue : List (Int × Int)
  pins : List Bool
  now : Int
  pos : Int
  way : Int
  plays : List (Int × Int)
def nextC (n : Nat) (st : Int) (c : Car) : Car :=
  if 0 ≤ c.pos + c.way ∧ c.pos + c.way < n then { c with pos := c.pos + c.way, now := c.now + st } else { c with way := -c.way }
structure CarOK (n : Nat) (N : Nat) (c : Car) : Prop where
  pl : c.pins.length = 2 * n
  p0 : 0 ≤ c.pos
  pn : c.pos < n
  wy : c.way = 1 ∨ c.way = -1
  qs : ∀ x ∈ c.queue, 0 ≤ x.1 ∧ x.1 < 2 * n ∧ 0 ≤ x.2 ∧ x.2 ≤ 9999
  ps : ∀ x ∈ c.plays, 0 ≤ x.1 ∧ x.1 < 2 * n
  cnt : c.plays.length + c.queue.length + c.pins.countP id ≤ N
/-- positions, as they come one after another -/
def cyc (n : Nat) (c : Car) : Nat := if c.way < 0 then 2 * n - 1 - c.pos.toNat else c.pos.toNat
def sideOf (n k : Nat) : Nat := if k < n then 2 * k else 2 * (2 * n - 1 - k) + 1
def pinAt (n : Nat) (c : Car) (m : Nat) : Prop := c.pins.getD (sideOf n ((cyc n c + m) % (2 * n))) false = true
def Bd (n : Nat) (c : Car) (X : Nat) : Prop :=
  ∃ m, (2 * c.queue.length + c.pins.countP id) * (2 * n + 2) + m ≤ X ∧ ((m < 2 * n ∧ pinAt n c m) ∨ (c.pins.countP id = 0 ∧ 1 ≤ m) ∨ (c.pins.countP id = 0 ∧ ∀ x, c.queue.head? = some x → x.2 ≤ c.now))
theorem Bd.mono {n : Nat} {c : Car} {X Y : Nat} (h : Bd n c X) (hXY : X ≤ Y) : Bd n c Y := by
  obtain ⟨m, h1, h2⟩ := h
  exact ⟨m, by omega, h2⟩
section
variable {n N : Nat} {c : Car}
theorem CarOK.next (h : CarOK n N c) (st : Int) : CarOK n N (nextC n st c) := by
  unfold nextC
  split
  · next hp => exact ⟨h.pl, hp.1, hp.2, h.wy, h.qs, h.ps, h.cnt⟩
  · exact ⟨h.pl, h.p0, h.pn, by rcases h.wy with e | e <;> simp [e], h.qs, h.ps, h.cnt⟩
end
end Go.Proofs.Ytppncdbhebgcaaa
namespace Go.Proofs.Ytppncdbhebgcaaa
open Go.RowKit

end Go.Proofs.Ytppncdbhebgcaaa
namespace Go.Proofs.Ytppncdbhebgcaaa
open Go.RowKit

/-- a world that grew, and whose one row grew -/
def GrB (r : Option Nat) (w w' : World) : Prop := World.grownBy w w' r
theorem GrB.ext {r : Option Nat} {w w' : World} (h : Ext w w') : GrB r w w' := ⟨h.os, h.tape, h.output, h.size, fun i hi _ => h.block i hi⟩
theorem GrB.refl (r : Option Nat) (w : World) : GrB r w w := GrB.ext (Ext.refl w)
theorem GrB.trans {r : Option Nat} {a b c : World} (h : GrB r a b) (h' : GrB r b c) : GrB r a c :=
  ⟨h'.os.trans h.os, h'.tape.trans h.tape, h'.output.trans h.output, Nat.le_trans h.size h'.size, fun k hk hr => (h'.block k (Nat.lt_of_lt_of_le hk h.size) hr).trans (h.block k hk hr)⟩
theorem GrB.keep {r : Option Nat} {w w' : World} (h : GrB r w w') {b : Nat} {o : Obj} (hm : w.heap[b]? = some o) (hr : some b ≠ r) : w'.heap[b]? = some o := (h.block b (Array.getElem?_eq_some_iff.1 hm).1 hr).trans hm
def boolVs (l : List Bool) : Array Value := (l.map Value.bool).toArray
structure TrP where
  pr : Option Addr
  cr : Nat
  pp : Option Addr
  cp : Nat
structure CarX where
  qq : Option Addr
  cq : Nat
  sd : Int
  uS : Value
  uP : Value
  st : Int
  en : Int
  nS : Nat
  vS : List Value
def carCells (T : TrayD) (P : TrP) (gp : Nat) (c : Car) (X : CarX) : Array Value :=
  #[.slice P.pr T.recs.length P.cr, .int .i64 T.at_, .int .i64 T.way, .int .i64 T.step, .slice P.pp T.prs.length P.cp, .slice X.qq c.queue.length X.cq, .slice (some ⟨gp, 0, none⟩) c.pins.length c.pins.length, .int .i64 c.now, .int .i64 c.pos, .int .i64 c.way, .int .i64 X.sd, X.uS, X.uP, .int .i64 X.st, .int .i64 X.en]
/-- a carriage, but for its rows that grow -/
structure CarB (w0 w : World) (b gp : Nat) (T : TrayD) (P : TrP) (c : Car) (X : CarX) : Prop where
  e : Ext w0 w
  m : w.heap[b]? = some (.cells (carCells T P gp c X) 132)
  q : PairsAt w X.qq c.queue
  qb : ∀ a, X.qq = some a → a.block < b ∧ a.block ≠ gp ∧ w0.heap.size ≤ a.block
  qc : c.queue.length ≤ X.cq
  p : w.heap[gp]? = some (.cells (boolVs c.pins) 4)
  hb : w0.heap.size ≤ gp
  hg : gp < b
structure CarM (w0 w : World) (b gp : Nat) (T : TrayD) (P : TrP) (c : Car) (X : CarX) (S : Nat) : Prop where
  B : CarB w0 w b gp T P c X
  s : w.ownsRow (b + 1) 146 4 X.uS X.nS X.vS
  pl : w.ownsRow (b + 1) 92 2 X.uP c.plays.length (pairVs c.plays)
  nS : X.nS ≤ S
theorem PairsAt.heap {w w' : World} {p : Option Addr} {l : List (Int × Int)} (h : PairsAt w p l) (hk : ∀ a, p = some a → w'.heap[a.block]? = w.heap[a.block]?) : PairsAt w' p l := by
  intro i hi
  obtain ⟨b, o, rfl, h1, h2⟩ := h i hi
  have e := hk _ rfl
  exact ⟨b, o, rfl, (World.cell?_of_block (a := ⟨b, o + i * 2, none⟩) e).trans h1, (World.cell?_of_block (a := ⟨b, o + i * 2 + 1, none⟩) e).trans h2⟩
theorem heap_off {w : World} {b o k : Nat} {v : Value} (h : k ≠ b) : (w.setCell ⟨b, o, none⟩ v).heap[k]? = w.heap[k]? := by
  cases hm : w.heap[k]? with
  | none =>
    have : w.heap.size ≤ k := by
      rcases Nat.lt_or_ge k w.heap.size with h' | h'
      · rw [Array.getElem?_eq_getElem h'] at hm; cases hm
      · exact h'
    rw [Array.getElem?_eq_none (by simp only [World.setCell, Array.size_modify]; exact this)]
  | some o' => exact heap_set_ne h hm
section
variable {w0 w w' : World} {b gp S : Nat} {T : TrayD} {P : TrP} {c c' : Car} {X X' : CarX}
theorem CarB.size (h : CarB w0 w b gp T P c X) : b < w.heap.size := (Array.getElem?_eq_some_iff.1 h.m).1
/-- what lies above the carriage grows -/
theorem CarB.grow {r : Option Nat} (h : CarB w0 w b gp T P c X) (hg : GrB r w w') (hr : ∀ k, r = some k → b < k) : CarB w0 w' b gp T P c X := by
  have hne : ∀ k, k ≤ b → some k ≠ r := fun k hk e => by have := hr k e.symm; omega
  have hs := h.size
  have h1 := h.hb
  have h2 := h.hg
  refine ⟨Below.grown h.e hg h.e.size (fun k hk => by have := hr k hk; omega), hg.keep h.m (hne b (Nat.le_refl _)), h.q.heap fun a ha => ?_, h.qb, h.qc, hg.keep h.p (hne gp (by omega)), h.hb, h.hg⟩
  have h3 := h.qb a ha
  exact hg.block _ (by omega) (hne _ (by omega))
theorem CarB.ext (h : CarB w0 w b gp T P c X) (hE : Ext w w') : CarB w0 w' b gp T P c X := h.grow (r := none) (GrB.ext hE) fun k hk => by cases hk
theorem CarM.mono {S' : Nat} (h : CarM w0 w b gp T P c X S) (hS : S ≤ S') : CarM w0 w b gp T P c X S' := ⟨h.B, h.s, h.pl, Nat.le_trans h.nS hS⟩
theorem CarM.ext (h : CarM w0 w b gp T P c X S) (hE : Ext w w') : CarM w0 w' b gp T P c X S := ⟨h.B.ext hE, ownsRow_ext h.s hE, ownsRow_ext h.pl hE, h.nS⟩
end
/-- a slice of one element of its own -/
def OneN (B : Nat) (xs : List Value) (t : TypeId) (v : Value) (_ _ : Nat) (w : World) : Prop := ∃ g, v = .slice (some ⟨g, 0, none⟩) 1 1 ∧ B ≤ g ∧ w.heap[g]? = some (.cells xs.toArray t)
theorem OneN.mono {B : Nat} {xs : List Value} {t : TypeId} : ∀ v s u w w', Ext w w' → OneN B xs t v s u w → OneN B xs t v s u w' := fun _ _ _ _ _ hE ⟨g, h1, h2, h3⟩ => ⟨g, h1, h2, heap_ext3 h3 hE⟩
theorem OneN.grow {B : Nat} {xs : List Value} {t : TypeId} {r : Option Nat} (hr : ∀ k, r = some k → k < B) {w w' : World} (hg : GrB r w w') {v : Value} {s u : Nat} (h : OneN B xs t v s u w) : OneN B xs t v s u w' := by
  obtain ⟨g, h1, h2, h3⟩ := h
  exact ⟨g, h1, h2, hg.keep h3 fun e => by have := hr g e.symm; omega⟩
/-- a row that grew -/
def RowG (B : Nat) (t : TypeId) (size n : Nat) (xs : List Value) (v : Value) (_ _ : Nat) (w : World) : Prop := ∃ g cap, v = .slice (some ⟨g, 0, none⟩) n cap ∧ w.ownsRow B t size v n xs
theorem RowG.mono {B : Nat} {t : TypeId} {size n : Nat} {xs : List Value} : ∀ v s u w w', Ext w w' → RowG B t size n xs v s u w → RowG B t size n xs v s u w' := fun _ _ _ _ _ hE ⟨g, c, h1, h2⟩ => ⟨g, c, h1, ownsRow_ext h2 hE⟩
end Go.Proofs.Ytppncdbhebgcaaa
namespace Go.Proofs.Ytppncdbhebgcaaa
open Go.RowKit

end Go.Proofs.Ytppncdbhebgcaaa
namespace Go.Proofs.Ytppncdbhebgcaaa
open Go.RowKit

end Go.Proofs.Ytppncdbhebgcaaa
namespace Go.Proofs.Ytppncdbhebgcaaa
open Go.RowKit


theorem PairsAt.tail {w : World} {b o : Nat} {r : Int × Int} {l : List (Int × Int)} (h : PairsAt w (some ⟨b, o, none⟩) (r :: l)) : PairsAt w (some ⟨b, o + 2, none⟩) l := by
  intro i hi
  obtain ⟨b', o', he, h1, h2⟩ := h (i + 1) (by simp; omega)
  cases he
  rw [List.getElem_cons_succ] at h1 h2
  exact ⟨b, o + 2, rfl, by rw [show o + 2 + i * 2 = o + (i + 1) * 2 by omega]; exact h1, by rw [show o + 2 + i * 2 + 1 = o + (i + 1) * 2 + 1 by omega]; exact h2⟩
end Go.Proofs.Ytppncdbhebgcaaa
namespace Go.Proofs.Ytppncdbhebgcaaa
open Go.RowKit

/-- what Index of a true one answers -/
def RetIx (l : List Bool) (w : World) (e : Ending) (w' : World) : Prop := ∃ k : Int, e = .returned (.int .i64 k) ∧ (l.any id = true → 0 ≤ k) ∧ (l.any id = false → k = -1) ∧ Ext w w'
theorem RetIx.fin {l : List Bool} {w w' : World} {k : Int} (h1 : l.any id = true → 0 ≤ k) (h2 : l.any id = false → k = -1) (h3 : Ext w w') : RetIx l w (.returned (.int .i64 k)) w' := ⟨k, rfl, h1, h2, h3⟩

end Go.Proofs.Ytppncdbhebgcaaa
namespace Go.Proofs.Ytppncdbhebgcaaa
open Go.RowKit


end Go.Proofs.Ytppncdbhebgcaaa
namespace Go.Proofs.Ytppncdbhebgcaaa
open Go.RowKit

def swpP (l : List (Int × Int)) (i j : Nat) : List (Int × Int) := (l.set i (l.getD j (0, 0))).set j (l.getD i (0, 0))
theorem swpP_len (l : List (Int × Int)) (i j : Nat) : (swpP l i j).length = l.length := by simp [swpP]
theorem getD_setP (l : List (Int × Int)) (i : Nat) (v : Int × Int) (k : Nat) (h : i < l.length) : (l.set i v).getD k (0, 0) = if i = k then v else l.getD k (0, 0) := by
  rw [List.getD_eq_getElem?_getD, List.getElem?_set]
  by_cases e : i = k
  · rw [if_pos e, if_pos e, if_pos h]; rfl
  · rw [if_neg e, if_neg e, List.getD_eq_getElem?_getD]
theorem swpP_get {l : List (Int × Int)} {i j : Nat} (hi : i < l.length) (hj : j < l.length) (k : Nat) : (swpP l i j).getD k (0, 0) = if j = k then l.getD i (0, 0) else if i = k then l.getD j (0, 0) else l.getD k (0, 0) := by
  unfold swpP
  rw [getD_setP _ _ _ _ (by rw [List.length_set]; exact hj), getD_setP _ _ _ _ hi]
/-- the first i are sorted -/
def SrtP (R : (Int × Int) → (Int × Int) → Prop) (l : List (Int × Int)) (i : Nat) : Prop := ∀ a b, a < b → b < i → R (l.getD a (0, 0)) (l.getD b (0, 0))
/-- the first ones are sorted but for the one at j, which is still on its way -/
structure InsP (R : (Int × Int) → (Int × Int) → Prop) (l : List (Int × Int)) (i j : Nat) : Prop where
  ji : j ≤ i
  il : i < l.length
  pr : ∀ a b, a < b → b ≤ i → b ≠ j → R (l.getD a (0, 0)) (l.getD b (0, 0))
section
variable {R : (Int × Int) → (Int × Int) → Prop} {l : List (Int × Int)} {i j : Nat}
theorem InsP.start (h : SrtP R l i) (hi : i < l.length) : InsP R l i i := ⟨Nat.le_refl _, hi, fun a b hab hb hne => h a b hab (by omega)⟩
theorem InsP.stop (hT : ∀ x y z, R x y → R y z → R x z) (h : InsP R l i j) (hs : j = 0 ∨ R (l.getD (j - 1) (0, 0)) (l.getD j (0, 0))) : SrtP R l (i + 1) := by
  intro a b hab hb
  by_cases e : b = j
  · subst e
    rcases hs with h0 | h1
    · omega
    · by_cases c : a = b - 1
      · rw [c]; exact h1
      · exact hT _ _ _ (h.pr a (b - 1) (by omega) (by omega) (by omega)) h1
  · exact h.pr a b hab (by omega) e
theorem InsP.step (h : InsP R l i (j + 1)) (hr : R (l.getD (j + 1) (0, 0)) (l.getD j (0, 0))) : InsP R (swpP l (j + 1) j) i j := by
  have hi := h.il
  have hji := h.ji
  refine ⟨by omega, by rw [swpP_len]; exact hi, fun a b hab hb hne => ?_⟩
  rw [swpP_get (by omega) (by omega), swpP_get (by omega) (by omega)]
  by_cases b1 : j + 1 = b
  · subst b1
    rw [if_neg (by omega : ¬j = j + 1), if_pos rfl]
    by_cases a1 : j = a
    · rw [if_pos a1]; exact hr
    · rw [if_neg a1, if_neg (by omega)]
      exact h.pr a j (by omega) (by omega) (by omega)
  · have hb' : ¬j = b := fun e => hne e.symm
    rw [if_neg hb', if_neg b1]
    by_cases a1 : j = a
    · rw [if_pos a1]; exact h.pr (j + 1) b (by omega) hb (fun e => b1 e.symm)
    · rw [if_neg a1]
      by_cases a2 : j + 1 = a
      · rw [if_pos a2]; exact h.pr j b (by omega) hb (fun e => b1 e.symm)
      · rw [if_neg a2]; exact h.pr a b hab hb (fun e => b1 e.symm)
theorem SrtP.pairwise (h : SrtP R l l.length) : l.Pairwise R := by
  rw [List.pairwise_iff_getElem]
  intro a b ha hb hab
  have := h a b hab hb
  rwa [List.getD_eq_getElem?_getD, List.getD_eq_getElem?_getD, List.getElem?_eq_getElem ha, List.getElem?_eq_getElem hb] at this
end
end Go.Proofs.Ytppncdbhebgcaaa
namespace Go.Proofs.Ytppncdbhebgcaaa
open Go.RowKit

end Go.Proofs.Ytppncdbhebgcaaa
