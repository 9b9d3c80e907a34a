/- The box of the first weeks: the same least cost. Plain law. -/
import Derived.Test.YtkcilgjkdiopnaaE03f
import Derived.Test.YtkcilgjkdiopnaaFi3
namespace Go.Proofs.Ytkcilgjkdiopnaa
open Go.RowKit

theorem recW_map {X Y : Wr} {f : Rec → Rec} (h : Y.recs = X.recs.map f) (h0 : f noRec = noRec) (i : Nat) : recW Y i = f (recW X i) := by
  unfold recW
  rw [h, List.getD_eq_getElem?_getD, List.getD_eq_getElem?_getD, List.getElem?_map]
  cases X.recs[i]? with
  | none => exact h0.symm
  | some r => rfl
theorem first_rec (X : Wr) (k i : Nat) : recW (firstX X k) i = cutR k (recW X i) := recW_map rfl (by simp [cutR, noRec]) i
theorem first_plays (X : Wr) (k : Nat) {j : Nat} (i : Nat) (hj : j < k) : playsW (firstX X k) j i = playsW X j i := by
  unfold playsW
  rw [first_rec]
  unfold cutR
  simp only [List.getD_eq_getElem?_getD, List.getElem?_take, if_pos hj]
theorem first_alike (X : Wr) (k : Nat) : Alike k X (firstX X k) where
  age := rfl
  step := rfl
  rough := rfl
  len := by simp [firstX]
  worn := fun i => by rw [first_rec]; rfl
  limit := fun i => by rw [first_rec]; rfl
  plays := fun j i hj => (first_plays X k i hj).symm
theorem first_valid {X : Wr} (hX : ValidW X) {k : Nat} (hk : (k : Int) ≤ X.weeks) : ValidW (firstX X k) where
  weeks := ⟨Int.natCast_nonneg k, by have := hX.weeks; show (k : Int) ≤ 6; omega⟩
  age := hX.age
  step := hX.step
  price := hX.price
  rough := hX.rough
  recs := by simpa [firstX] using hX.recs
  rg := hX.rg
  up := hX.up
  rc := fun i hi => by
    have hi' : i < X.recs.length := by simpa [firstX] using hi
    obtain ⟨h1, h2, h3, h4, h5⟩ := hX.rc i hi'
    have e : (firstX X k).recs[i] = cutR k X.recs[i] := by simp [firstX]
    rw [e]
    refine ⟨h1, h2, h3, ?_, fun j hj => ?_⟩
    · show (((X.recs[i].plays.take k).length : Nat) : Int) = (k : Int)
      rw [List.length_take]; omega
    · have hj' : j < X.recs[i].plays.length := by
        have : j < (X.recs[i].plays.take k).length := hj
        rw [List.length_take] at this; omega
      have := h5 j hj'
      have e2 : (cutR k X.recs[i]).plays[j] = X.recs[i].plays[j] := by simp [cutR]
      rw [e2]; exact this
theorem costOf_same {X Y : Wr} {n : Nat} (hA : Alike n X Y) (hp : Y.price = X.price) (h : ∀ i, (recW Y i).price = (recW X i).price) : costOf Y n = costOf X n := by
  have := costOf_mul (k := 1) (by decide) hA (by omega) (fun i => by have := h i; omega)
  rw [this]
  cases costOf X n <;> simp
theorem first_cost (X : Wr) (k : Nat) : costOf (firstX X k) k = costOf X k :=
  costOf_same (first_alike X k) rfl (fun i => by rw [first_rec]; rfl)
theorem first_cheap (X : Wr) (k : Nat) : cheapV (firstX X k) = match costOf X k with
    | some m => .tuple #[.int .i64 m, .int .i64 0]
    | none => .tuple #[.int .i64 0, .int .i64 3] := by
  rw [cheap_costOf]
  have : (firstX X k).weeks.toNat = k := by simp [firstX]
  rw [this, first_cost]
  cases costOf X k <;> rfl
end Go.Proofs.Ytkcilgjkdiopnaa
