
/- Charts: ranks, cuts and orders of numbers that are not known: the plain law, without a program. -/
import Derived.Test.YtaoamnhchidjfaaDoorXA
namespace Go.Proofs.YtaoamnhchidjfaaDoor

/-- a title with a number comes before another one -/
def ahd (j : Nat) (m : Int) (i : Nat) (n : Int) : Bool := decide (n < m) || (decide (m = n) && decide (j < i))
theorem ahd_iff {j i : Nat} {m n : Int} : ahd j m i n = true ↔ n < m ∨ (m = n ∧ j < i) := by simp [ahd]
theorem ahd_self (i : Nat) (m : Int) : ahd i m i m = false := by
  rw [Bool.eq_false_iff]; intro h; rw [ahd_iff] at h; omega
theorem ahd_mono {j i : Nat} {m n m' n' : Int} (h : ahd j m i n = true) (h1 : m ≤ m') (h2 : n' ≤ n) : ahd j m' i n' = true := by
  rw [ahd_iff] at h ⊢; omega
theorem ahd_trans {i j k : Nat} {a b c : Int} (h : ahd i a j b = true) (h' : ahd j b k c = true) : ahd i a k c = true := by
  rw [ahd_iff] at h h' ⊢; omega
theorem ahd_asymm {i j : Nat} {a b : Int} (h : ahd i a j b = true) : ahd j b i a = false := by
  rw [Bool.eq_false_iff]; intro h'; rw [ahd_iff] at h h'; omega
theorem ahd_total {i j : Nat} (a b : Int) (h : i ≠ j) : ahd i a j b = true ∨ ahd j b i a = true := by
  rw [ahd_iff, ahd_iff]; omega
/-- the rank of a title in a truth -/
def rnk (n : Nat) (x : Nat → Int) (i : Nat) : Nat := 1 + (List.range n).countP fun j => ahd j (x j) i (x i)
def rnkLo (n : Nat) (lo hi : Nat → Int) (i : Nat) : Nat := 1 + (List.range n).countP fun j => decide (j ≠ i) && ahd j (lo j) i (hi i)
def rnkHi (n : Nat) (lo hi : Nat → Int) (i : Nat) : Nat := 1 + (List.range n).countP fun j => decide (j ≠ i) && ahd j (hi j) i (lo i)
theorem countP_le_of {α : Type} {p q : α → Bool} : ∀ (l : List α), (∀ x ∈ l, p x = true → q x = true) → l.countP p ≤ l.countP q := by
  intro l h
  exact List.countP_mono_left h
theorem rnk_ne (n : Nat) (x : Nat → Int) (i : Nat) : rnk n x i = 1 + (List.range n).countP fun j => decide (j ≠ i) && ahd j (x j) i (x i) := by
  unfold rnk
  congr 1
  refine List.countP_congr fun j _ => ?_
  by_cases e : j = i
  · subst e; simp [ahd_self]
  · simp [e]
section
variable {n : Nat} {lo hi x y : Nat → Int}
theorem rnkLo_le (h1 : ∀ j, j < n → lo j ≤ x j) (h2 : ∀ j, j < n → x j ≤ hi j) {i : Nat} (hi' : i < n) : rnkLo n lo hi i ≤ rnk n x i := by
  rw [rnk_ne]
  unfold rnkLo
  refine Nat.add_le_add_left (countP_le_of _ fun j hj h => ?_) 1
  rw [Bool.and_eq_true] at h ⊢
  exact ⟨h.1, ahd_mono h.2 (h1 j (List.mem_range.1 hj)) (h2 i hi')⟩
theorem le_rnkHi (h1 : ∀ j, j < n → lo j ≤ x j) (h2 : ∀ j, j < n → x j ≤ hi j) {i : Nat} (hi' : i < n) : rnk n x i ≤ rnkHi n lo hi i := by
  rw [rnk_ne]
  unfold rnkHi
  refine Nat.add_le_add_left (countP_le_of _ fun j hj h => ?_) 1
  rw [Bool.and_eq_true] at h ⊢
  exact ⟨h.1, ahd_mono h.2 (h2 j (List.mem_range.1 hj)) (h1 i hi')⟩
/-- one title has a number of its own -/
def pin (i : Nat) (v : Int) (x : Nat → Int) : Nat → Int := fun j => if j = i then v else x j
theorem pin_self (i : Nat) (v : Int) (x : Nat → Int) : pin i v x i = v := if_pos rfl
theorem pin_ne {i j : Nat} (v : Int) (x : Nat → Int) (h : j ≠ i) : pin i v x j = x j := if_neg h
theorem rnkLo_at (i : Nat) : rnk n (pin i (hi i) lo) i = rnkLo n lo hi i := by
  rw [rnk_ne]
  unfold rnkLo
  congr 1
  refine List.countP_congr fun j _ => ?_
  by_cases e : j = i
  · simp [e]
  · simp [e, pin_self, pin_ne]
theorem rnkHi_at (i : Nat) : rnk n (pin i (lo i) hi) i = rnkHi n lo hi i := by
  rw [rnk_ne]
  unfold rnkHi
  congr 1
  refine List.countP_congr fun j _ => ?_
  by_cases e : j = i
  · simp [e]
  · simp [e, pin_self, pin_ne]
theorem rnk_pos (n : Nat) (x : Nat → Int) (i : Nat) : 1 ≤ rnk n x i := by unfold rnk; omega
theorem countP_lt_of {α : Type} {p : α → Bool} : ∀ {l : List α} {a : α}, a ∈ l → p a = false → l.countP p < l.length := by
  intro l
  induction l with
  | nil => intro a h; cases h
  | cons b l ih =>
    intro a h hp
    rw [List.countP_cons, List.length_cons]
    rcases List.mem_cons.1 h with e | h
    · subst e
      rw [if_neg (by rw [hp]; decide)]
      have := List.countP_le_length (p := p) (l := l)
      omega
    · have := ih h hp
      split <;> omega
theorem countP_lt_countP {α : Type} {p q : α → Bool} : ∀ {l : List α} {a : α}, (∀ x ∈ l, p x = true → q x = true) → a ∈ l → p a = false → q a = true → l.countP p < l.countP q := by
  intro l
  induction l with
  | nil => intro a _ h; cases h
  | cons b l ih =>
    intro a hle h hp hq
    rw [List.countP_cons, List.countP_cons]
    have hle' : ∀ x ∈ l, p x = true → q x = true := fun x hx => hle x (List.mem_cons_of_mem _ hx)
    have hb := hle b List.mem_cons_self
    rcases List.mem_cons.1 h with e | h
    · subst e
      rw [if_neg (by rw [hp]; decide), if_pos hq]
      have := countP_le_of l hle'
      omega
    · have := ih hle' h hp hq
      by_cases c : p b = true
      · rw [if_pos c, if_pos (hb c)]; omega
      · rw [if_neg c]; split <;> omega
theorem rnk_le {i : Nat} (h : i < n) : rnk n x i ≤ n := by
  have := countP_lt_of (p := fun j => ahd j (x j) i (x i)) (List.mem_range.2 h) (ahd_self i (x i))
  rw [List.length_range] at this
  unfold rnk
  omega
theorem rnk_lt {i j : Nat} (hi' : i < n) (h : ahd i (x i) j (x j) = true) : rnk n x i < rnk n x j := by
  unfold rnk
  have := countP_lt_countP (p := fun k => ahd k (x k) i (x i)) (q := fun k => ahd k (x k) j (x j)) (l := List.range n) (fun k _ hk => ahd_trans hk h) (List.mem_range.2 hi') (ahd_self i (x i)) h
  omega
theorem rnk_lt_iff {i j : Nat} (hi' : i < n) (hj : j < n) : rnk n x i < rnk n x j ↔ ahd i (x i) j (x j) = true := by
  refine ⟨fun h => ?_, rnk_lt hi'⟩
  have hne : i ≠ j := fun e => by subst e; omega
  rcases ahd_total (i := i) (j := j) (x i) (x j) hne with h' | h'
  · exact h'
  · have := rnk_lt hj h'
    omega
theorem rnk_inj {i j : Nat} (hi' : i < n) (hj : j < n) (h : rnk n x i = rnk n x j) : i = j := by
  refine Classical.byContradiction fun hne => ?_
  rcases ahd_total (i := i) (j := j) (x i) (x j) hne with h' | h'
  · have := rnk_lt hi' h'; omega
  · have := rnk_lt hj h'; omega
theorem nodup_len {α : Type} [DecidableEq α] : ∀ (l m : List α), l.Nodup → (∀ x ∈ l, x ∈ m) → l.length ≤ m.length := by
  intro l
  induction l with
  | nil => intro m _ _; exact Nat.zero_le _
  | cons a l ih =>
    intro m hn hs
    have ha : a ∈ m := hs a List.mem_cons_self
    have hn' := List.nodup_cons.1 hn
    have := ih (m.erase a) hn'.2 fun x hx => by
      have hxa : x ≠ a := fun e => hn'.1 (e ▸ hx)
      exact (List.mem_erase_of_ne hxa).2 (hs x (List.mem_cons_of_mem _ hx))
    rw [List.length_erase_of_mem ha] at this
    have hp : 0 < m.length := List.length_pos_of_mem ha
    rw [List.length_cons]
    omega
/-- so many different numbers below n are all numbers below n -/
theorem all_below {l : List Nat} {n : Nat} (hn : l.Nodup) (hl : l.length = n) (hb : ∀ k ∈ l, k < n) {k : Nat} (hk : k < n) : k ∈ l := by
  refine Classical.byContradiction fun h => ?_
  have h1 := nodup_len l ((List.range n).erase k) hn fun x hx => by
    have hxk : x ≠ k := fun e => h (e ▸ hx)
    exact (List.mem_erase_of_ne hxk).2 (List.mem_range.2 (hb x hx))
  rw [List.length_erase_of_mem (List.mem_range.2 hk), List.length_range] at h1
  omega
/-- there is a title with each rank -/
theorem rnk_at (x : Nat → Int) {k : Nat} (h1 : 1 ≤ k) (h2 : k ≤ n) : ∃ i, i < n ∧ rnk n x i = k := by
  have hn : ((List.range n).map fun i => rnk n x i - 1).Nodup := by
    rw [List.nodup_iff_pairwise_ne, List.pairwise_map]
    refine List.Pairwise.imp_of_mem ?_ (List.nodup_iff_pairwise_ne.1 List.nodup_range)
    intro a b ha hb hne e0
    have e : rnk n x a - 1 = rnk n x b - 1 := e0
    have := rnk_pos n x a
    have := rnk_pos n x b
    exact hne (rnk_inj (x := x) (List.mem_range.1 ha) (List.mem_range.1 hb) (by omega))
  have hm := all_below (n := n) hn (by simp) (fun k hk => by
    obtain ⟨i, hi, rfl⟩ := List.mem_map.1 hk
    have := rnk_le (x := x) (List.mem_range.1 hi)
    have := rnk_pos n x i
    have := List.mem_range.1 hi
    omega) (k := k - 1) (by omega)
  obtain ⟨i, hi, he⟩ := List.mem_map.1 hm
  have := rnk_pos n x i
  exact ⟨i, List.mem_range.1 hi, by omega⟩
/-- v is the number with a rank -/
def Kth (n : Nat) (x : Nat → Int) (k : Nat) (v : Int) : Prop := (List.range n).countP (fun j => decide (v < x j)) < k ∧ k ≤ (List.range n).countP fun j => decide (v ≤ x j)
theorem Kth.uniq {k : Nat} {v v' : Int} (h : Kth n x k v) (h' : Kth n x k v') : v = v' := by
  refine Classical.byContradiction fun hne => ?_
  rcases Int.lt_or_gt_of_ne hne with c | c
  · have := countP_le_of (p := fun j => decide (v' ≤ x j)) (q := fun j => decide (v < x j)) (List.range n) fun j _ h => by
      simp only [decide_eq_true_eq] at h ⊢; omega
    have := h.1; have := h'.2; omega
  · have := countP_le_of (p := fun j => decide (v ≤ x j)) (q := fun j => decide (v' < x j)) (List.range n) fun j _ h => by
      simp only [decide_eq_true_eq] at h ⊢; omega
    have := h.2; have := h'.1; omega
theorem Kth.mono {k : Nat} {v v' : Int} (h : Kth n x k v) (h' : Kth n y k v') (hle : ∀ j, j < n → x j ≤ y j) : v ≤ v' := by
  refine Int.not_lt.1 fun c => ?_
  have := countP_le_of (p := fun j => decide (v ≤ x j)) (q := fun j => decide (v' < y j)) (List.range n) fun j hj h => by
    have := hle j (List.mem_range.1 hj)
    simp only [decide_eq_true_eq] at h ⊢; omega
  have := h.2; have := h'.1; omega
theorem rnk_kth {i : Nat} (h : i < n) : Kth n x (rnk n x i) (x i) := by
  unfold Kth rnk
  constructor
  · have := countP_le_of (p := fun j => decide (x i < x j)) (q := fun j => ahd j (x j) i (x i)) (List.range n) fun j _ h => by
      rw [ahd_iff]; simp only [decide_eq_true_eq] at h; omega
    omega
  · have := countP_lt_countP (p := fun j => ahd j (x j) i (x i)) (q := fun j => decide (x i ≤ x j)) (l := List.range n) (a := i) (fun j _ h => by
      rw [ahd_iff] at h; simp only [decide_eq_true_eq]; omega) (List.mem_range.2 h) (ahd_self i (x i)) (by simp)
    omega
theorem range_count (n : Nat) (x : Nat → Int) (p : Int → Bool) : (List.range n).countP (fun j => p (x j)) = ((List.range n).map x).countP p := by
  rw [List.countP_map]; rfl
/-- the number with a rank, of numbers that were sorted -/
theorem sorted_kth {l : List Int} (hs : l.Pairwise (· ≤ ·)) (hp : l.Perm ((List.range n).map x)) {k : Nat} (h1 : 1 ≤ k) (h2 : k ≤ n) (hl : n - k < l.length) : Kth n x k l[n - k] := by
  have hlen : l.length = n := by rw [hp.length_eq]; simp
  unfold Kth
  rw [range_count n x fun a => decide (l[n - k] < a), range_count n x fun a => decide (l[n - k] ≤ a), ← hp.countP_eq, ← hp.countP_eq]
  obtain ⟨v, hv⟩ : ∃ v, v = l[n - k] := ⟨_, rfl⟩
  rw [← hv]
  have e : l = l.take (n - k) ++ v :: l.drop (n - k + 1) := by rw [hv, ← List.drop_eq_getElem_cons hl, List.take_append_drop]
  have hd := hs
  rw [e] at hd
  have hp2 := List.pairwise_append.1 hd
  have hp3 := List.pairwise_cons.1 hp2.2.1
  have ht : ∀ a ∈ l.take (n - k), a ≤ v := fun a ha => hp2.2.2 a ha v List.mem_cons_self
  have hdl : (l.drop (n - k + 1)).length = k - 1 := by rw [List.length_drop]; omega
  constructor
  · have h3 : (l.take (n - k)).countP (fun a => decide (v < a)) = 0 := List.countP_eq_zero.2 fun a ha => by
      have := ht a ha
      simp only [decide_eq_true_eq]; omega
    have h4 := List.countP_le_length (p := fun a => decide (v < a)) (l := l.drop (n - k + 1))
    rw [e, List.countP_append, List.countP_cons, h3, if_neg (by simp)]
    omega
  · have h4 : (l.drop (n - k + 1)).countP (fun a => decide (v ≤ a)) = (l.drop (n - k + 1)).length := List.countP_eq_length.2 fun a ha => by
      have := hp3.1 a ha
      simpa using this
    rw [e, List.countP_append, List.countP_cons, h4, if_pos (by simp)]
    omega
end
end Go.Proofs.YtaoamnhchidjfaaDoor
