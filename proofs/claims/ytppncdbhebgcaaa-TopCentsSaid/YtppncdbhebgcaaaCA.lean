
/- Charts: ranks, cuts and orders of numbers that are not known: the plain law, without a program. Charts: how many orders there are: the plain law, without a program. Charts: the answers, out of the numbers of all titles: what the reference reckons over all truths, and what the program reckons: plain law. Charts: how much more a title needs, and all orders, as the reference and the program find them: plain law. Charts: how many titles are in Top and May. -/
import Derived.Test.YtppncdbhebgcaaaXA
import Derived.Test.YtppncdbhebgcaaaXE
namespace Go.Proofs.Ytppncdbhebgcaaa

/-- a title with a number comes before another one -/
def ahd (j : Nat) (m : Int) (i : Nat) (n : Int) : Bool := decide (n < m) || (decide (m = n) && decide (j < i))
theorem ahd_iff {j i : Nat} {m n : Int} : ahd j m i n = true ↔ n < m ∨ (m = n ∧ j < i) := by simp [ahd]
theorem ahd_self (i : Nat) (m : Int) : ahd i m i m = false := by
  rw [Bool.eq_false_iff]; intro h; rw [ahd_iff] at h; omega
theorem ahd_mono {j i : Nat} {m n m' n' : Int} (h : ahd j m i n = true) (h1 : m ≤ m') (h2 : n' ≤ n) : ahd j m' i n' = true := by
  rw [ahd_iff] at h ⊢; omega
theorem ahd_trans {i j k : Nat} {a b c : Int} (h : ahd i a j b = true) (h' : ahd j b k c = true) : ahd i a k c = true := by
  rw [ahd_iff] at h h' ⊢; omega
theorem ahd_asymm {i j : Nat} {a b : Int} (h : ahd i a j b = true) : ahd j b i a = false := by
  rw [Bool.eq_false_iff]; intro h'; rw [ahd_iff] at h h'; omega
theorem ahd_total {i j : Nat} (a b : Int) (h : i ≠ j) : ahd i a j b = true ∨ ahd j b i a = true := by
  rw [ahd_iff, ahd_iff]; omega
/-- the rank of a title in a truth -/
def rnk (n : Nat) (x : Nat → Int) (i : Nat) : Nat := 1 + (List.range n).countP fun j => ahd j (x j) i (x i)
theorem countP_le_of {α : Type} {p q : α → Bool} : ∀ (l : List α), (∀ x ∈ l, p x = true → q x = true) → l.countP p ≤ l.countP q := by
  intro l h
  exact List.countP_mono_left h
section
variable {n : Nat} {lo hi x y : Nat → Int}
/-- v is the number with a rank -/
def Kth (n : Nat) (x : Nat → Int) (k : Nat) (v : Int) : Prop := (List.range n).countP (fun j => decide (v < x j)) < k ∧ k ≤ (List.range n).countP fun j => decide (v ≤ x j)
theorem Kth.uniq {k : Nat} {v v' : Int} (h : Kth n x k v) (h' : Kth n x k v') : v = v' := by
  refine Classical.byContradiction fun hne => ?_
  rcases Int.lt_or_gt_of_ne hne with c | c
  · have := countP_le_of (p := fun j => decide (v' ≤ x j)) (q := fun j => decide (v < x j)) (List.range n) fun j _ h => by
      simp only [decide_eq_true_eq] at h ⊢; omega
    have := h.1; have := h'.2; omega
  · have := countP_le_of (p := fun j => decide (v ≤ x j)) (q := fun j => decide (v' < x j)) (List.range n) fun j _ h => by
      simp only [decide_eq_true_eq] at h ⊢; omega
    have := h.2; have := h'.1; omega
theorem Kth.mono {k : Nat} {v v' : Int} (h : Kth n x k v) (h' : Kth n y k v') (hle : ∀ j, j < n → x j ≤ y j) : v ≤ v' := by
  refine Int.not_lt.1 fun c => ?_
  have := countP_le_of (p := fun j => decide (v ≤ x j)) (q := fun j => decide (v' < y j)) (List.range n) fun j hj h => by
    have := hle j (List.mem_range.1 hj)
    simp only [decide_eq_true_eq] at h ⊢; omega
  have := h.2; have := h'.1; omega
end
end Go.Proofs.Ytppncdbhebgcaaa
namespace Go.Proofs.Ytppncdbhebgcaaa

/-- a title with a number can come behind what came last -/
def nextP (prev : Option (Nat × Int)) (i : Nat) (v : Int) : Bool :=
  match prev with
  | none => true
  | some (j, m) => ahd j m i v
/-- titles come in an order -/
def chainF (x : Nat → Int) : Option (Nat × Int) → List Nat → Prop
  | _, [] => True
  | prev, i :: r => nextP prev i (x i) = true ∧ chainF x (some (i, x i)) r
section
variable {T : Nat → List Int}
end
/-- titles are in the order of some numbers -/
def IsOrd (n : Nat) (x : Nat → Int) (π : List Nat) : Prop := π.Perm (List.range n) ∧ chainF x none π
theorem chain_from {x : Nat → Int} : ∀ (l : List Nat) (i : Nat), chainF x (some (i, x i)) l → ∀ j ∈ l, ahd i (x i) j (x j) = true := by
  intro l
  induction l with
  | nil => intro i _ j hj; cases hj
  | cons k r ih =>
    intro i h j hj
    rcases List.mem_cons.1 hj with e | e
    · subst e; exact h.1
    · exact ahd_trans h.1 (ih k h.2 j e)
theorem chain_pairwise {x : Nat → Int} : ∀ (l : List Nat) (prev : Option (Nat × Int)), chainF x prev l → l.Pairwise fun i j => ahd i (x i) j (x j) = true := by
  intro l
  induction l with
  | nil => intro _ _; exact List.Pairwise.nil
  | cons i r ih => intro prev h; exact List.pairwise_cons.2 ⟨chain_from r i h.2, ih _ h.2⟩
theorem pair_rank {x : Nat → Int} {l : List Nat} (h : l.Pairwise fun i j => ahd i (x i) j (x j) = true) {k : Nat} (hk : k < l.length) : l.countP (fun j => ahd j (x j) l[k] (x l[k])) = k := by
  obtain ⟨v, hv⟩ : ∃ v, v = l[k] := ⟨_, rfl⟩
  rw [← hv]
  have e : l = l.take k ++ v :: l.drop (k + 1) := by rw [hv, ← List.drop_eq_getElem_cons hk, List.take_append_drop]
  have hd := h
  rw [e] at hd
  have hp2 := List.pairwise_append.1 hd
  have hp3 := List.pairwise_cons.1 hp2.2.1
  have h1 : (l.take k).countP (fun j => ahd j (x j) v (x v)) = (l.take k).length := List.countP_eq_length.2 fun a ha => hp2.2.2 a ha v List.mem_cons_self
  have h2 : (l.drop (k + 1)).countP (fun j => ahd j (x j) v (x v)) = 0 := List.countP_eq_zero.2 fun a ha => by
    rw [ahd_asymm (hp3.1 a ha)]; decide
  rw [e, List.countP_append, List.countP_cons, h1, h2, if_neg (by rw [ahd_self]; decide), List.length_take]
  omega
theorem IsOrd.rank {n : Nat} {x : Nat → Int} {π : List Nat} (h : IsOrd n x π) {k : Nat} (hk : k < π.length) : rnk n x π[k] = k + 1 := by
  unfold rnk
  rw [← h.1.countP_eq, pair_rank (chain_pairwise π none h.2) hk]
  omega
theorem IsOrd.len {n : Nat} {x : Nat → Int} {π : List Nat} (h : IsOrd n x π) : π.length = n := by rw [h.1.length_eq]; simp
theorem IsOrd.lt {n : Nat} {x : Nat → Int} {π : List Nat} (h : IsOrd n x π) {k : Nat} (hk : k < π.length) : π[k] < n := List.mem_range.1 (h.1.subset (List.getElem_mem hk))
section
variable {n : Nat} {T U : Nat → List Int}
end
end Go.Proofs.Ytppncdbhebgcaaa
namespace Go.Proofs.Ytppncdbhebgcaaa

abbrev Tab := List (List Int)
def rowT (T : Tab) (i : Nat) : List Int := T.getD i []
def loT (T : Tab) (i : Nat) : Int := (rowT T i).headD 0
def hiT (T : Tab) (i : Nat) : Int := (rowT T i).getLastD 0
def TabOK (T : Tab) : Prop := ∀ l ∈ T, l ≠ [] ∧ l.Pairwise (· < ·)
theorem rowT_get {T : Tab} {i : Nat} (h : i < T.length) : rowT T i = T[i] := by
  unfold rowT
  rw [List.getD_eq_getElem?_getD, List.getElem?_eq_getElem h]
  rfl
section
variable {T : Tab}
theorem TabOK.row (hT : TabOK T) (i : Nat) : (rowT T i).Pairwise (· < ·) := by
  by_cases h : i < T.length
  · rw [rowT_get h]; exact (hT _ (List.getElem_mem h)).2
  · unfold rowT
    rw [List.getD_eq_getElem?_getD, List.getElem?_eq_none (by omega)]
    exact List.Pairwise.nil
theorem TabOK.ne (hT : TabOK T) {i : Nat} (h : i < T.length) : rowT T i ≠ [] := by
  rw [rowT_get h]; exact (hT _ (List.getElem_mem h)).1
end
section
variable {T : Tab}
end
section
variable {T : Tab}
end
section
variable {T : Tab}
end
/-- how many titles would still be before a title that has a number -/
def ndC (T : Tab) (i : Nat) (v : Int) : Nat := (List.range T.length).countP fun j => decide (j ≠ i) && ahd j (hiT T j) i v
def NeedP (T : Tab) (i : Nat) (f : Int) (v : Int) : Prop := (1 + ndC T i v : Int) ≤ f
def IsNeed (T : Tab) (i : Nat) (f : Int) (a : Int) : Prop := 0 ≤ a ∧ NeedP T i f (loT T i + a) ∧ ∀ m, 0 ≤ m → m < a → ¬NeedP T i f (loT T i + m)
theorem IsNeed.uniq {T : Tab} {i : Nat} {f a b : Int} (h : IsNeed T i f a) (h' : IsNeed T i f b) : a = b := by
  refine Classical.byContradiction fun hne => ?_
  rcases Int.lt_or_gt_of_ne hne with c | c
  · exact h'.2.2 a h.1 c h.2.1
  · exact h.2.2 b h'.1 c h'.2.1
theorem ndC_mono {T : Tab} {i : Nat} {v v' : Int} (h : v ≤ v') : ndC T i v' ≤ ndC T i v :=
  countP_le_of _ fun j _ hj => by
    rw [Bool.and_eq_true] at hj ⊢
    exact ⟨hj.1, ahd_mono hj.2 (Int.le_refl _) h⟩
theorem NeedP.mono {T : Tab} {i : Nat} {f v v' : Int} (h : NeedP T i f v) (hv : v ≤ v') : NeedP T i f v' := by
  have := ndC_mono (T := T) (i := i) hv
  unfold NeedP at h ⊢
  omega
end Go.Proofs.Ytppncdbhebgcaaa
namespace Go.Proofs.Ytppncdbhebgcaaa

section
variable {T : Tab}
end
end Go.Proofs.Ytppncdbhebgcaaa
namespace Go.Proofs.Ytppncdbhebgcaaa
open Go.RowKit

end Go.Proofs.Ytppncdbhebgcaaa
