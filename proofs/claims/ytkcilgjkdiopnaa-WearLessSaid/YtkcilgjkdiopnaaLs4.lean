/- Less wear, one number after another. Plain. -/
import Derived.Test.YtkcilgjkdiopnaaLs3
namespace Go.Proofs.Ytkcilgjkdiopnaa
open Go.RowKit

theorem recW_set {X : Wr} {l : List Rec} {j : Nat} {r : Rec} (hl : X.recs = l.set j r) (hj : j < l.length) (i : Nat) : recW X i = if i = j then r else l.getD i noRec := by
  unfold recW
  rw [hl]
  simp only [List.getD_eq_getElem?_getD]
  by_cases e : i = j
  · subst e
    rw [List.getElem?_set_self hj, if_pos rfl]
    rfl
  · rw [List.getElem?_set_ne (fun h => e h.symm), if_neg e]
theorem recW_get {X : Wr} {j : Nat} (h : j < X.recs.length) : recW X j = X.recs[j] := by
  unfold recW
  simp [List.getD, h]
theorem LessW.refl (X : Wr) : LessW X X := ⟨rfl, rfl, Int.le_refl _, Int.le_refl _, rfl, fun _ => Int.le_refl _, rfl, fun _ => Int.le_refl _, fun _ => Int.le_refl _, fun _ => rfl, fun _ _ => Int.le_refl _⟩
theorem LessW.head {X Y : Wr} (h : LessW X Y) {a s : Int} (ha : a ≤ Y.age) (hs : Y.step ≤ s) : LessW X { Y with age := a, step := s } :=
  ⟨h.weeks, h.price, Int.le_trans ha h.age, Int.le_trans h.step hs, h.rlen, h.rough, h.len, h.worn, h.limit, h.rprice, h.plays⟩
theorem LessW.roughAt {X Y : Wr} (h : LessW X Y) {i : Nat} {n : Int} (hi : i < Y.rough.length) (hn : n ≤ Y.rough[i]) : LessW X { Y with rough := Y.rough.set i n } := by
  refine ⟨h.weeks, h.price, h.age, h.step, by simp only [List.length_set]; exact h.rlen, fun k => ?_, h.len, h.worn, h.limit, h.rprice, h.plays⟩
  have h1 := h.rough k
  simp only [List.getD_eq_getElem?_getD] at h1 ⊢
  by_cases e : k = i
  · subst e
    rw [List.getElem?_set_self hi]
    rw [List.getElem?_eq_getElem hi] at h1
    simp only [Option.getD_some] at h1 ⊢
    omega
  · rw [List.getElem?_set_ne (fun e2 => e e2.symm)]
    exact h1
theorem LessW.recAt {X Y : Wr} (h : LessW X Y) {j : Nat} {r : Rec} (hj : j < Y.recs.length) (h1 : r.worn ≤ Y.recs[j].worn) (h2 : Y.recs[j].limit ≤ r.limit) (h3 : r.price = Y.recs[j].price) (h4 : ∀ k, r.plays.getD k 0 ≤ Y.recs[j].plays.getD k 0) :
    LessW X { Y with recs := Y.recs.set j r } := by
  have hr : ∀ i, recW { Y with recs := Y.recs.set j r } i = if i = j then r else recW Y i := fun i => recW_set rfl hj i
  have hjj := recW_get hj
  refine ⟨h.weeks, h.price, h.age, h.step, h.rlen, h.rough, by simp only [List.length_set]; exact h.len, fun i => ?_, fun i => ?_, fun i => ?_, fun k i => ?_⟩
  · rw [hr]
    have := h.worn i
    by_cases e : i = j
    · subst e; rw [if_pos rfl]; rw [hjj] at this; omega
    · rw [if_neg e]; exact this
  · rw [hr]
    have := h.limit i
    by_cases e : i = j
    · subst e; rw [if_pos rfl]; rw [hjj] at this; omega
    · rw [if_neg e]; exact this
  · rw [hr]
    have := h.rprice i
    by_cases e : i = j
    · subst e; rw [if_pos rfl]; rw [hjj] at this; omega
    · rw [if_neg e]; exact this
  · have := h.plays k i
    unfold playsW at this ⊢
    rw [hr]
    by_cases e : i = j
    · subst e; rw [if_pos rfl]; rw [hjj] at this; have := h4 k; omega
    · rw [if_neg e]; exact this
theorem getD_set_le (l : List Int) {k : Nat} {n : Int} (hk : k < l.length) (hn : n ≤ l[k]) (i : Nat) : (l.set k n).getD i 0 ≤ l.getD i 0 := by
  simp only [List.getD_eq_getElem?_getD]
  by_cases e : i = k
  · subst e
    rw [List.getElem?_set_self hk, List.getElem?_eq_getElem hk]
    exact hn
  · rw [List.getElem?_set_ne (fun e2 => e e2.symm)]
    exact Int.le_refl _
theorem set_facts (Y : Wr) {j : Nat} (r : Rec) {Z : Wr} (hZ : Z = { Y with recs := Y.recs.set j r }) : Z.recs.length = Y.recs.length ∧ ∀ h : j < Z.recs.length, Z.recs[j] = r := by
  subst hZ
  exact ⟨List.length_set, fun h => by simp⟩
theorem set_plays (Y : Wr) {j : Nat} (r : Rec) {Z : Wr} (hZ : Z = { Y with recs := Y.recs.set j r }) (h : ∀ x ∈ Y.recs, x.plays.length ≤ 6) (hr : r.plays.length ≤ 6) : ∀ x ∈ Z.recs, x.plays.length ≤ 6 := by
  subst hZ
  intro x hx
  rcases List.mem_or_eq_of_mem_set hx with h1 | h1
  · exact h x h1
  · rw [h1]; exact hr
end Go.Proofs.Ytkcilgjkdiopnaa
