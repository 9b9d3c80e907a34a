
/- When records and needles are replaced: plain definitions of the choices. The walks of has, many and late. The walks of cost, all and whole. A slice of rows, each in memory of its own, that grow one at a time; an append whose result lies where it can be said. The walk of choose. -/
import Derived.Test.YtppncdbhebgcaaaVB
import Derived.Laws.MakeOwn
import Derived.Test.YtppncdbhebgcaaaVC
import Derived.Deep.OwnRows
namespace Go.Proofs.Ytppncdbhebgcaaa.We
open Go.RowKit

structure Ch where
  needles : Nat
  records : List Nat

/-! in memory -/
def MaskR (_ : World) (v : Value) (n : Nat) : Prop := v = .int .u64 n
theorem MaskR.mono : Mono MaskR := fun _ _ _ _ _ h => h
def MasksAt (w : World) (p : Option Addr) (l : List Nat) : Prop := SlAt MaskR w p l
theorem MasksAt.ext {w w' : World} {p : Option Addr} {l : List Nat} (h : MasksAt w p l) (hE : Ext w w') : MasksAt w' p l := SlAt.ext MaskR.mono h hE
theorem MasksAt.at {w : World} {p : Option Addr} {l : List Nat} (h : MasksAt w p l) (i : Nat) (hi : i < l.length) : ∃ b o, p = some ⟨b, o, none⟩ ∧ w.cell? ⟨b, o + i, none⟩ = some (.int .u64 l[i]) := by
  obtain ⟨b, o, v, hp, hc, rfl⟩ := h i hi
  exact ⟨b, o, hp, hc⟩
def ChV (w : World) (v : Value) (c : Ch) : Prop := ∃ p cap, v = .agg #[.int .u64 c.needles, .slice p c.records.length cap] ∧ MasksAt w p c.records
theorem ChV.mono : Mono ChV := by
  rintro w w' v c hE ⟨p, cap, rfl, h⟩
  exact ⟨p, cap, rfl, h.ext hE⟩
/-- choices in a slice, two cells each -/
def ChsAt (w : World) (p : Option Addr) (l : List Ch) : Prop :=
  ∀ i (h : i < l.length), ∃ b o q c, p = some ⟨b, o, none⟩ ∧ w.cell? ⟨b, o + i * 2, none⟩ = some (.int .u64 l[i].needles) ∧ w.cell? ⟨b, o + i * 2 + 1, none⟩ = some (.slice q l[i].records.length c) ∧ MasksAt w q l[i].records
theorem ChsAt.ext {w w' : World} {p : Option Addr} {l : List Ch} (h : ChsAt w p l) (hE : Ext w w') : ChsAt w' p l := by
  intro i hi
  obtain ⟨b, o, q, c, hp, h1, h2, h3⟩ := h i hi
  exact ⟨b, o, q, c, hp, hE.cell h1, hE.cell h2, h3.ext hE⟩

/-! bounds -/
end Go.Proofs.Ytppncdbhebgcaaa.We
namespace Go.Proofs.Ytppncdbhebgcaaa.We
open Go.RowKit

end Go.Proofs.Ytppncdbhebgcaaa.We
namespace Go.Proofs.Ytppncdbhebgcaaa.We
open Go.RowKit

end Go.Proofs.Ytppncdbhebgcaaa.We
namespace Go.Proofs.Ytppncdbhebgcaaa.We
open Go.RowKit

/-- rows in the array of block G: row i reads Ls i, in a block of its own from B on -/
structure RowsG (W : World) (B G : Nat) (vs : List Value) (Ls : Nat → List Int) : Prop where
  arr : W.heap[G]? = some (.cells vs.toArray 26 (0, 0))
  row : ∀ i (h : i < vs.length), W.ownsRow B 3 1 vs[i] (Ls i).length (intVs (Ls i))
  apart : ∀ i j (hi : i < vs.length) (hj : j < vs.length), i ≠ j → ∀ b, vs[i].ownBlock = some b → vs[j].ownBlock ≠ some b

theorem RowsG.fr {W W' : World} {B G : Nat} {vs : List Value} {Ls : Nat → List Int} {E : Nat → Prop} (h : RowsG W B G vs Ls) (hF : Fr E W W') (hG : ¬E G) (hE : ∀ b, B ≤ b → b < W.heap.size → ¬E b) : RowsG W' B G vs Ls :=
  ⟨(hF.block G (Array.getElem?_eq_some_iff.1 h.arr).1 hG).trans h.arr, fun i hi => ownsRow_fr (h.row i hi) hF (fun b hb => by have := (h.row i hi).lt b hb; exact hE b this.1 this.2), h.apart⟩

/-- one more number behind row i -/
theorem RowsG.step {W W' : World} {B G g i cap : Nat} {vs : List Value} {Ls : Nat → List Int} {x : Int} (h : RowsG W B G vs Ls) (hi : i < vs.length) (hGB : G < B)
    (hown : W'.ownsRow B 3 1 (.slice (some ⟨g, 0, none⟩) ((Ls i).length + 1) cap) ((Ls i).length + 1) (intVs (Ls i) ++ [.int .i64 x])) (hgr : W.grownBy W' vs[i].ownBlock) (hat : vs[i].ownBlock = some g ∨ g = W.heap.size) :
    RowsG (W'.setCell ⟨G, i, none⟩ (.slice (some ⟨g, 0, none⟩) ((Ls i).length + 1) cap)) B G (vs.set i (.slice (some ⟨g, 0, none⟩) ((Ls i).length + 1) cap)) (fun j => if j = i then Ls i ++ [x] else Ls j) := by
  have hGi : vs[i].ownBlock ≠ some G := fun e => by have := ((h.row i hi).lt G e).1; omega
  have hgB : B ≤ g := (hown.lt g rfl).1
  have hFs : Fr (fun k => k = G) W' (W'.setCell ⟨G, i, none⟩ (.slice (some ⟨g, 0, none⟩) ((Ls i).length + 1) cap)) := (Fr.refl _ _).set rfl
  refine ⟨?_, ?_, ?_⟩
  · refine heap_set ((hgr.block G (Array.getElem?_eq_some_iff.1 h.arr).1 (fun e => hGi e.symm)).trans h.arr) ?_
    simp
  · intro j hj
    rw [List.length_set] at hj
    by_cases e : j = i
    · subst e
      simp only [List.getElem_set_self, if_true]
      have := ownsRow_fr hown hFs (fun b hb e2 => by cases hb; have e3 : g = G := e2; omega)
      rw [show intVs (Ls j ++ [x]) = intVs (Ls j) ++ [.int .i64 x] from by simp [intVs]]
      rw [show (Ls j ++ [x]).length = (Ls j).length + 1 from by simp]
      exact this
    · rw [if_neg e]
      have h1 := ownsRow_fr (h.row j hj) (grown_fr hgr) (fun b hb e2 => h.apart i j hi hj (fun e3 => e e3.symm) b e2 hb)
      have h2 := ownsRow_fr h1 hFs (fun b hb e2 => by have := (h1.lt b hb).1; have e3 : b = G := e2; omega)
      rw [List.getElem_set_ne (fun e3 => e e3.symm)]
      exact h2
  · intro j k hj' hk' hjk b hb hc
    have hj : j < vs.length := by rwa [List.length_set] at hj'
    have hk : k < vs.length := by rwa [List.length_set] at hk'
    have new : ∀ m (hm : m < vs.length), m ≠ i → vs[m].ownBlock = some g → False := fun m hm hmi hg => by
      rcases hat with ha | ha
      · exact h.apart i m hi hm (fun e => hmi e.symm) g ha hg
      · have := ((h.row m hm).lt g hg).2; omega
    by_cases e1 : j = i
    · subst e1
      rw [List.getElem_set_self] at hb
      rw [List.getElem_set_ne hjk] at hc
      cases hb
      exact new k hk (fun e => hjk e.symm) hc
    · rw [List.getElem_set_ne (fun e => e1 e.symm)] at hb
      by_cases e2 : k = i
      · subst e2
        rw [List.getElem_set_self] at hc
        cases hc
        exact new j hj e1 hb
      · rw [List.getElem_set_ne (fun e => e2 e.symm)] at hc
        exact h.apart j k hj hk hjk b hb hc
end Go.Proofs.Ytppncdbhebgcaaa.We
namespace Go.Proofs.Ytppncdbhebgcaaa.We
open Go.RowKit

/-- a choice whose records lie in block B0 or later -/
def ChN (B0 : Nat) (w : World) (v : Value) (c : Ch) : Prop := ∃ p cap, v = .agg #[.int .u64 c.needles, .slice p c.records.length cap] ∧ MasksAt w p c.records ∧ ∀ a, p = some a → B0 ≤ a.block
theorem ChN.ch {B0 : Nat} {w : World} {v : Value} {c : Ch} (h : ChN B0 w v c) : ChV w v c := by
  obtain ⟨p, cap, h1, h2, -⟩ := h
  exact ⟨p, cap, h1, h2⟩
theorem MasksAt.fr {w w' : World} {p : Option Addr} {l : List Nat} {E : Nat → Prop} (h : MasksAt w p l) (hF : Fr E w w') (hn : ∀ a, p = some a → ¬E a.block) : MasksAt w' p l := by
  intro i hi
  obtain ⟨b, o, v, hp, hc, hv⟩ := h i hi
  exact ⟨b, o, v, hp, hF.cell hc (hn _ hp), hv⟩
def zeroCh : Value := .agg #[.int .u64 0, .slice none 0 0]
/-- what choose returns -/
def ChPost (o : Option Ch) (w : World) (e : Ending) (w' : World) : Prop :=
  Ext w w' ∧ match o with
    | some c => ∃ v, e = .returned (.tuple #[v, .bool true]) ∧ ChN w.heap.size w' v c
    | none => e = .returned (.tuple #[zeroCh, .bool false])

end Go.Proofs.Ytppncdbhebgcaaa.We
