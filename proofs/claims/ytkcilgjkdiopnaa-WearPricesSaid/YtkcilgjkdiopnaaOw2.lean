/- A slice of rows, each in memory of its own, that grow one at a time; an append whose result lies where it can be said. -/
import Derived.Test.YtkcilgjkdiopnaaOwn
import Derived.Laws.MakeOwn
namespace Go.Proofs.Ytkcilgjkdiopnaa
open Go.RowKit

theorem madeCells_eq (z : Value) (n : Nat) : madeCells #[z] n = (List.replicate n z).toArray := by
  apply Array.ext
  · simp [madeCells]
  · intro i h1 h2
    simp [madeCells, Nat.mod_one]

/-- rows in the array of block G: row i reads Ls i, in a block of its own from B on -/
structure RowsG (W : World) (B G : Nat) (vs : List Value) (Ls : Nat → List Int) : Prop where
  arr : W.heap[G]? = some (.cells vs.toArray 22 (0, 0))
  row : ∀ i (h : i < vs.length), W.ownsRow B 3 1 vs[i] (Ls i).length (intVs (Ls i))
  apart : ∀ i j (hi : i < vs.length) (hj : j < vs.length), i ≠ j → ∀ b, vs[i].ownBlock = some b → vs[j].ownBlock ≠ some b

theorem RowsG.fr {W W' : World} {B G : Nat} {vs : List Value} {Ls : Nat → List Int} {E : Nat → Prop} (h : RowsG W B G vs Ls) (hF : Fr E W W') (hG : ¬E G) (hE : ∀ b, B ≤ b → b < W.heap.size → ¬E b) : RowsG W' B G vs Ls :=
  ⟨(hF.block G (Array.getElem?_eq_some_iff.1 h.arr).1 hG).trans h.arr, fun i hi => ownsRow_fr (h.row i hi) hF (fun b hb => by have := (h.row i hi).lt b hb; exact hE b this.1 this.2), h.apart⟩

/-- one more number behind row i -/
theorem RowsG.step {W W' : World} {B G g i cap : Nat} {vs : List Value} {Ls : Nat → List Int} {x : Int} (h : RowsG W B G vs Ls) (hi : i < vs.length) (hGB : G < B)
    (hown : W'.ownsRow B 3 1 (.slice (some ⟨g, 0, none⟩) ((Ls i).length + 1) cap) ((Ls i).length + 1) (intVs (Ls i) ++ [.int .i64 x])) (hgr : W.grownBy W' vs[i].ownBlock) (hat : vs[i].ownBlock = some g ∨ g = W.heap.size) :
    RowsG (W'.setCell ⟨G, i, none⟩ (.slice (some ⟨g, 0, none⟩) ((Ls i).length + 1) cap)) B G (vs.set i (.slice (some ⟨g, 0, none⟩) ((Ls i).length + 1) cap)) (fun j => if j = i then Ls i ++ [x] else Ls j) := by
  have hGi : vs[i].ownBlock ≠ some G := fun e => by have := ((h.row i hi).lt G e).1; omega
  have hgB : B ≤ g := (hown.lt g rfl).1
  have hFs : Fr (fun k => k = G) W' (W'.setCell ⟨G, i, none⟩ (.slice (some ⟨g, 0, none⟩) ((Ls i).length + 1) cap)) := (Fr.refl _ _).set rfl
  refine ⟨?_, ?_, ?_⟩
  · refine heap_set ((hgr.block G (Array.getElem?_eq_some_iff.1 h.arr).1 (fun e => hGi e.symm)).trans h.arr) ?_
    simp
  · intro j hj
    rw [List.length_set] at hj
    by_cases e : j = i
    · subst e
      simp only [List.getElem_set_self, if_true]
      have := ownsRow_fr hown hFs (fun b hb e2 => by cases hb; have e3 : g = G := e2; omega)
      rw [show intVs (Ls j ++ [x]) = intVs (Ls j) ++ [.int .i64 x] from by simp [intVs]]
      rw [show (Ls j ++ [x]).length = (Ls j).length + 1 from by simp]
      exact this
    · rw [if_neg e]
      have h1 := ownsRow_fr (h.row j hj) (grown_fr hgr) (fun b hb e2 => h.apart i j hi hj (fun e3 => e e3.symm) b e2 hb)
      have h2 := ownsRow_fr h1 hFs (fun b hb e2 => by have := (h1.lt b hb).1; have e3 : b = G := e2; omega)
      rw [List.getElem_set_ne (fun e3 => e e3.symm)]
      exact h2
  · intro j k hj' hk' hjk b hb hc
    have hj : j < vs.length := by rwa [List.length_set] at hj'
    have hk : k < vs.length := by rwa [List.length_set] at hk'
    have new : ∀ m (hm : m < vs.length), m ≠ i → vs[m].ownBlock = some g → False := fun m hm hmi hg => by
      rcases hat with ha | ha
      · exact h.apart i m hi hm (fun e => hmi e.symm) g ha hg
      · have := ((h.row m hm).lt g hg).2; omega
    by_cases e1 : j = i
    · subst e1
      rw [List.getElem_set_self] at hb
      rw [List.getElem_set_ne hjk] at hc
      cases hb
      exact new k hk (fun e => hjk e.symm) hc
    · rw [List.getElem_set_ne (fun e => e1 e.symm)] at hb
      by_cases e2 : k = i
      · subst e2
        rw [List.getElem_set_self] at hc
        cases hc
        exact new j hj e1 hb
      · rw [List.getElem_set_ne (fun e => e2 e.symm)] at hc
        exact h.apart j k hj hk hjk b hb hc
end Go.Proofs.Ytkcilgjkdiopnaa
