
/- Maps of counts that a call makes: look-ups and stores; the walk of the reference's sorted. -/
import Derived.Test.YtppncdbhebgcaaaQ9a
import Derived.Test.YtppncdbhebgcaaaQ8b
import Derived.Maps.OwnOps
import Derived.Maps.Views
namespace Go.Proofs.Ytppncdbhebgcaaa
open Go.RowKit Go.Maps

/-- a map of counts: f tells the count of each key -/
def CntMap (w : World) (kt : TypeId) (b n : Nat) (f : Lit → Int) : Prop :=
  ∃ D : DataW Unit, w.ownsMap Try.prog kt (plainElem Try.prog 3) b n D ∧ IsMap D ∧ ∀ k, D.atKey k (.lit (.int .i64 0)) = .lit (.int .i64 (f k))
open Classical in
noncomputable def cntUp (f : Lit → Int) (kl : Lit) (v : Int) : Lit → Int := fun k => if k = kl then v else f k
theorem cntUp_same (f : Lit → Int) (kl : Lit) (v : Int) : cntUp f kl v kl = v := if_pos rfl
theorem cntUp_other (f : Lit → Int) {kl k : Lit} (v : Int) (h : ¬k = kl) : cntUp f kl v k = f k := if_neg h
theorem CntMap.made (w : World) (kt : TypeId) : CntMap (w.alloc (.map #[] 0)) kt w.heap.size 0 (fun _ => 0) :=
  ⟨.map [], World.ownsMap_made w Try.prog kt _, isMap_empty, fun _ => rfl⟩
theorem CntMap.lt {w : World} {kt : TypeId} {b n : Nat} {f : Lit → Int} (h : CntMap w kt b n f) : b < w.heap.size := by
  obtain ⟨D, h1, -⟩ := h
  exact h1.lt
theorem CntMap.kept {w w' : World} {kt : TypeId} {b n : Nat} {f : Lit → Int} {r : Option Nat} (h : CntMap w kt b n f) (hg : w.grownBy w' r) (hr : some b ≠ r) : CntMap w' kt b n f := by
  obtain ⟨D, h1, h2⟩ := h
  exact ⟨D, h1.kept hg hr, h2⟩
theorem CntMap.ext {w w' : World} {kt : TypeId} {b n : Nat} {f : Lit → Int} (h : CntMap w kt b n f) (hE : Ext w w') : CntMap w' kt b n f := by
  obtain ⟨D, ⟨es, clock, hb, hF⟩, h2⟩ := h
  exact ⟨D, ⟨es, clock, heap_ext3 hb hE, hF⟩, h2⟩
/-- the counts of numbers, as a function -/
def CntInt (w : World) (b n : Nat) (f : Int → Int) : Prop := ∃ g, CntMap w 3 b n g ∧ ∀ s, g (.int .i64 s) = f s

end Go.Proofs.Ytppncdbhebgcaaa
