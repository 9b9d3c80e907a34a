
/- Charts: the extra plays of a chart in memory of its own are written. -/
import Derived.Test.YtaoamnhchidjfaaDoorC8i
import Derived.Test.YtaoamnhchidjfaaDoorD6a
namespace Go.Proofs.YtaoamnhchidjfaaDoor
open Go.RowKit

theorem ChG.set {w : World} {B : Nat} {u : Value} {g cx : Nat} {C : Ch} (h : ChG w B u g cx C) (i : Nat) (v : Int) : ChG (w.setCell ⟨g, i, none⟩ (.int .i64 v)) B u g cx (exS C i v) := by
  obtain ⟨⟨vs, hM⟩, hX⟩ := h
  refine ⟨⟨vs, hM.setI _ hX⟩, ?_⟩
  have h2 := ownsRow_set (i := i) (m := v) hX
  show World.ownsRow _ _ _ _ (.slice (some ⟨g, 0, none⟩) (C.extra.set i v).length cx) (C.extra.set i v).length _
  rw [List.length_set]
  exact h2
theorem ChG.cell {w : World} {B : Nat} {u : Value} {g cx : Nat} {C : Ch} (h : ChG w B u g cx C) {i : Nat} (hi : i < C.extra.length) : w.cell? ⟨g, i, none⟩ = some (.int .i64 C.extra[i]) ∧ w.frozen? ⟨g, i, none⟩ = false :=
  ownsRow_cell h.2 hi
theorem ChG.le {w : World} {B : Nat} {u : Value} {g cx : Nat} {C : Ch} (h : ChG w B u g cx C) : B ≤ g ∧ g < w.heap.size := h.2.lt g rfl
theorem exS_get {C : Ch} {t : Nat} (h : t < C.extra.length) (v : Int) : (exS C t v).extra[t]'(by show t < (C.extra.set t v).length; simpa using h) = v := by
  simp [exS]
theorem exS_set (C : Ch) (t : Nat) (a b : Int) : exS (exS C t a) t b = exS C t b := by
  unfold exS
  simp
/-- the first titles have so many plays more -/
def exTo (C : Ch) (m : Int) (k : Nat) : Ch := { C with extra := (C.extra.take k).map (· + m) ++ C.extra.drop k }
theorem exTo_0 (C : Ch) (m : Int) : exTo C m 0 = C := by unfold exTo; simp
theorem exTo_len (C : Ch) (m : Int) (k : Nat) : (exTo C m k).extra.length = C.extra.length := by
  unfold exTo
  simp
  omega
theorem exTo_all (C : Ch) (m : Int) : exTo C m C.extra.length = shC C m := by
  unfold exTo shC
  simp
theorem exTo_get {C : Ch} {m : Int} {k : Nat} (h : k < C.extra.length) : (exTo C m k).extra[k]'(by rw [exTo_len]; exact h) = C.extra[k] := by
  simp only [exTo]
  rw [List.getElem_append_right (by simp; omega), List.getElem_drop]
  congr 1
  simp
  omega
theorem exTo_succ {C : Ch} {m : Int} {k : Nat} (h : k < C.extra.length) : exS (exTo C m k) k (C.extra[k] + m) = exTo C m (k + 1) := by
  unfold exS exTo
  congr 1
  have hl : ((C.extra.take k).map (· + m)).length = k := by simp; omega
  rw [List.set_append_right _ _ (by omega), hl, Nat.sub_self, List.drop_eq_getElem_cons h, List.set_cons_zero, List.take_succ_eq_append_getElem h, List.map_append, List.append_assoc]
  rfl
end Go.Proofs.YtaoamnhchidjfaaDoor
