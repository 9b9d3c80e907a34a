
/- Charts: ranks, cuts and orders of numbers that are not known: the plain law, without a program. Charts: how many orders there are: the plain law, without a program. Charts: the answers, out of the numbers of all titles: what the reference reckons over all truths, and what the program reckons: plain law. Charts: how much more a title needs, and all orders, as the reference and the program find them: plain law. Charts: how many titles are in Top and May. -/
import Derived.Test.YtppncdbhebgcaaaGreatDoorXA
import Derived.Test.YtppncdbhebgcaaaGreatDoorXE
namespace Go.Proofs.YtppncdbhebgcaaaGreatDoor

/-- a title with a number comes before another one -/
def ahd (j : Nat) (m : Int) (i : Nat) (n : Int) : Bool := decide (n < m) || (decide (m = n) && decide (j < i))
theorem ahd_iff {j i : Nat} {m n : Int} : ahd j m i n = true ↔ n < m ∨ (m = n ∧ j < i) := by simp [ahd]
theorem ahd_self (i : Nat) (m : Int) : ahd i m i m = false := by
  rw [Bool.eq_false_iff]; intro h; rw [ahd_iff] at h; omega
theorem ahd_mono {j i : Nat} {m n m' n' : Int} (h : ahd j m i n = true) (h1 : m ≤ m') (h2 : n' ≤ n) : ahd j m' i n' = true := by
  rw [ahd_iff] at h ⊢; omega
theorem ahd_trans {i j k : Nat} {a b c : Int} (h : ahd i a j b = true) (h' : ahd j b k c = true) : ahd i a k c = true := by
  rw [ahd_iff] at h h' ⊢; omega
theorem ahd_asymm {i j : Nat} {a b : Int} (h : ahd i a j b = true) : ahd j b i a = false := by
  rw [Bool.eq_false_iff]; intro h'; rw [ahd_iff] at h h'; omega
theorem ahd_total {i j : Nat} (a b : Int) (h : i ≠ j) : ahd i a j b = true ∨ ahd j b i a = true := by
  rw [ahd_iff, ahd_iff]; omega
/-- the rank of a title in a truth -/
def rnk (n : Nat) (x : Nat → Int) (i : Nat) : Nat := 1 + (List.range n).countP fun j => ahd j (x j) i (x i)
theorem countP_le_of {α : Type} {p q : α → Bool} : ∀ (l : List α), (∀ x ∈ l, p x = true → q x = true) → l.countP p ≤ l.countP q := by
  intro l h
  exact List.countP_mono_left h
section
variable {n : Nat} {lo hi x y : Nat → Int}
/-- one title has a number of its own -/
def pin (i : Nat) (v : Int) (x : Nat → Int) : Nat → Int := fun j => if j = i then v else x j
theorem rnk_pos (n : Nat) (x : Nat → Int) (i : Nat) : 1 ≤ rnk n x i := by unfold rnk; omega
theorem countP_lt_of {α : Type} {p : α → Bool} : ∀ {l : List α} {a : α}, a ∈ l → p a = false → l.countP p < l.length := by
  intro l
  induction l with
  | nil => intro a h; cases h
  | cons b l ih =>
    intro a h hp
    rw [List.countP_cons, List.length_cons]
    rcases List.mem_cons.1 h with e | h
    · subst e
      rw [if_neg (by rw [hp]; decide)]
      have := List.countP_le_length (p := p) (l := l)
      omega
    · have := ih h hp
      split <;> omega
theorem countP_lt_countP {α : Type} {p q : α → Bool} : ∀ {l : List α} {a : α}, (∀ x ∈ l, p x = true → q x = true) → a ∈ l → p a = false → q a = true → l.countP p < l.countP q := by
  intro l
  induction l with
  | nil => intro a _ h; cases h
  | cons b l ih =>
    intro a hle h hp hq
    rw [List.countP_cons, List.countP_cons]
    have hle' : ∀ x ∈ l, p x = true → q x = true := fun x hx => hle x (List.mem_cons_of_mem _ hx)
    have hb := hle b List.mem_cons_self
    rcases List.mem_cons.1 h with e | h
    · subst e
      rw [if_neg (by rw [hp]; decide), if_pos hq]
      have := countP_le_of l hle'
      omega
    · have := ih hle' h hp hq
      by_cases c : p b = true
      · rw [if_pos c, if_pos (hb c)]; omega
      · rw [if_neg c]; split <;> omega
theorem rnk_le {i : Nat} (h : i < n) : rnk n x i ≤ n := by
  have := countP_lt_of (p := fun j => ahd j (x j) i (x i)) (List.mem_range.2 h) (ahd_self i (x i))
  rw [List.length_range] at this
  unfold rnk
  omega
theorem rnk_lt {i j : Nat} (hi' : i < n) (h : ahd i (x i) j (x j) = true) : rnk n x i < rnk n x j := by
  unfold rnk
  have := countP_lt_countP (p := fun k => ahd k (x k) i (x i)) (q := fun k => ahd k (x k) j (x j)) (l := List.range n) (fun k _ hk => ahd_trans hk h) (List.mem_range.2 hi') (ahd_self i (x i)) h
  omega
theorem rnk_lt_iff {i j : Nat} (hi' : i < n) (hj : j < n) : rnk n x i < rnk n x j ↔ ahd i (x i) j (x j) = true := by
  refine ⟨fun h => ?_, rnk_lt hi'⟩
  have hne : i ≠ j := fun e => by subst e; omega
  rcases ahd_total (i := i) (j := j) (x i) (x j) hne with h' | h'
  · exact h'
  · have := rnk_lt hj h'
    omega
theorem rnk_inj {i j : Nat} (hi' : i < n) (hj : j < n) (h : rnk n x i = rnk n x j) : i = j := by
  refine Classical.byContradiction fun hne => ?_
  rcases ahd_total (i := i) (j := j) (x i) (x j) hne with h' | h'
  · have := rnk_lt hi' h'; omega
  · have := rnk_lt hj h'; omega
theorem nodup_len {α : Type} [DecidableEq α] : ∀ (l m : List α), l.Nodup → (∀ x ∈ l, x ∈ m) → l.length ≤ m.length := by
  intro l
  induction l with
  | nil => intro m _ _; exact Nat.zero_le _
  | cons a l ih =>
    intro m hn hs
    have ha : a ∈ m := hs a List.mem_cons_self
    have hn' := List.nodup_cons.1 hn
    have := ih (m.erase a) hn'.2 fun x hx => by
      have hxa : x ≠ a := fun e => hn'.1 (e ▸ hx)
      exact (List.mem_erase_of_ne hxa).2 (hs x (List.mem_cons_of_mem _ hx))
    rw [List.length_erase_of_mem ha] at this
    have hp : 0 < m.length := List.length_pos_of_mem ha
    rw [List.length_cons]
    omega
/-- so many different numbers below n are all numbers below n -/
theorem all_below {l : List Nat} {n : Nat} (hn : l.Nodup) (hl : l.length = n) (hb : ∀ k ∈ l, k < n) {k : Nat} (hk : k < n) : k ∈ l := by
  refine Classical.byContradiction fun h => ?_
  have h1 := nodup_len l ((List.range n).erase k) hn fun x hx => by
    have hxk : x ≠ k := fun e => h (e ▸ hx)
    exact (List.mem_erase_of_ne hxk).2 (List.mem_range.2 (hb x hx))
  rw [List.length_erase_of_mem (List.mem_range.2 hk), List.length_range] at h1
  omega
/-- there is a title with each rank -/
theorem rnk_at (x : Nat → Int) {k : Nat} (h1 : 1 ≤ k) (h2 : k ≤ n) : ∃ i, i < n ∧ rnk n x i = k := by
  have hn : ((List.range n).map fun i => rnk n x i - 1).Nodup := by
    rw [List.nodup_iff_pairwise_ne, List.pairwise_map]
    refine List.Pairwise.imp_of_mem ?_ (List.nodup_iff_pairwise_ne.1 List.nodup_range)
    intro a b ha hb hne e0
    have e : rnk n x a - 1 = rnk n x b - 1 := e0
    have := rnk_pos n x a
    have := rnk_pos n x b
    exact hne (rnk_inj (x := x) (List.mem_range.1 ha) (List.mem_range.1 hb) (by omega))
  have hm := all_below (n := n) hn (by simp) (fun k hk => by
    obtain ⟨i, hi, rfl⟩ := List.mem_map.1 hk
    have := rnk_le (x := x) (List.mem_range.1 hi)
    have := rnk_pos n x i
    have := List.mem_range.1 hi
    omega) (k := k - 1) (by omega)
  obtain ⟨i, hi, he⟩ := List.mem_map.1 hm
  have := rnk_pos n x i
  exact ⟨i, List.mem_range.1 hi, by omega⟩
/-- v is the number with a rank -/
def Kth (n : Nat) (x : Nat → Int) (k : Nat) (v : Int) : Prop := (List.range n).countP (fun j => decide (v < x j)) < k ∧ k ≤ (List.range n).countP fun j => decide (v ≤ x j)
theorem Kth.uniq {k : Nat} {v v' : Int} (h : Kth n x k v) (h' : Kth n x k v') : v = v' := by
  refine Classical.byContradiction fun hne => ?_
  rcases Int.lt_or_gt_of_ne hne with c | c
  · have := countP_le_of (p := fun j => decide (v' ≤ x j)) (q := fun j => decide (v < x j)) (List.range n) fun j _ h => by
      simp only [decide_eq_true_eq] at h ⊢; omega
    have := h.1; have := h'.2; omega
  · have := countP_le_of (p := fun j => decide (v ≤ x j)) (q := fun j => decide (v' < x j)) (List.range n) fun j _ h => by
      simp only [decide_eq_true_eq] at h ⊢; omega
    have := h.2; have := h'.1; omega
theorem Kth.mono {k : Nat} {v v' : Int} (h : Kth n x k v) (h' : Kth n y k v') (hle : ∀ j, j < n → x j ≤ y j) : v ≤ v' := by
  refine Int.not_lt.1 fun c => ?_
  have := countP_le_of (p := fun j => decide (v ≤ x j)) (q := fun j => decide (v' < y j)) (List.range n) fun j hj h => by
    have := hle j (List.mem_range.1 hj)
    simp only [decide_eq_true_eq] at h ⊢; omega
  have := h.2; have := h'.1; omega
theorem rnk_kth {i : Nat} (h : i < n) : Kth n x (rnk n x i) (x i) := by
  unfold Kth rnk
  constructor
  · have := countP_le_of (p := fun j => decide (x i < x j)) (q := fun j => ahd j (x j) i (x i)) (List.range n) fun j _ h => by
      rw [ahd_iff]; simp only [decide_eq_true_eq] at h; omega
    omega
  · have := countP_lt_countP (p := fun j => ahd j (x j) i (x i)) (q := fun j => decide (x i ≤ x j)) (l := List.range n) (a := i) (fun j _ h => by
      rw [ahd_iff] at h; simp only [decide_eq_true_eq]; omega) (List.mem_range.2 h) (ahd_self i (x i)) (by simp)
    omega
theorem range_count (n : Nat) (x : Nat → Int) (p : Int → Bool) : (List.range n).countP (fun j => p (x j)) = ((List.range n).map x).countP p := by
  rw [List.countP_map]; rfl
/-- the number with a rank, of numbers that were sorted -/
theorem sorted_kth {l : List Int} (hs : l.Pairwise (· ≤ ·)) (hp : l.Perm ((List.range n).map x)) {k : Nat} (h1 : 1 ≤ k) (h2 : k ≤ n) (hl : n - k < l.length) : Kth n x k l[n - k] := by
  have hlen : l.length = n := by rw [hp.length_eq]; simp
  unfold Kth
  rw [range_count n x fun a => decide (l[n - k] < a), range_count n x fun a => decide (l[n - k] ≤ a), ← hp.countP_eq, ← hp.countP_eq]
  obtain ⟨v, hv⟩ : ∃ v, v = l[n - k] := ⟨_, rfl⟩
  rw [← hv]
  have e : l = l.take (n - k) ++ v :: l.drop (n - k + 1) := by rw [hv, ← List.drop_eq_getElem_cons hl, List.take_append_drop]
  have hd := hs
  rw [e] at hd
  have hp2 := List.pairwise_append.1 hd
  have hp3 := List.pairwise_cons.1 hp2.2.1
  have ht : ∀ a ∈ l.take (n - k), a ≤ v := fun a ha => hp2.2.2 a ha v List.mem_cons_self
  have hdl : (l.drop (n - k + 1)).length = k - 1 := by rw [List.length_drop]; omega
  constructor
  · have h3 : (l.take (n - k)).countP (fun a => decide (v < a)) = 0 := List.countP_eq_zero.2 fun a ha => by
      have := ht a ha
      simp only [decide_eq_true_eq]; omega
    have h4 := List.countP_le_length (p := fun a => decide (v < a)) (l := l.drop (n - k + 1))
    rw [e, List.countP_append, List.countP_cons, h3, if_neg (by simp)]
    omega
  · have h4 : (l.drop (n - k + 1)).countP (fun a => decide (v ≤ a)) = (l.drop (n - k + 1)).length := List.countP_eq_length.2 fun a ha => by
      have := hp3.1 a ha
      simpa using this
    rw [e, List.countP_append, List.countP_cons, h4, if_pos (by simp)]
    omega
end
end Go.Proofs.YtppncdbhebgcaaaGreatDoor
namespace Go.Proofs.YtppncdbhebgcaaaGreatDoor

/-- a title with a number can come behind what came last -/
def nextP (prev : Option (Nat × Int)) (i : Nat) (v : Int) : Bool :=
  match prev with
  | none => true
  | some (j, m) => ahd j m i v
/-- titles come in an order -/
def chainF (x : Nat → Int) : Option (Nat × Int) → List Nat → Prop
  | _, [] => True
  | prev, i :: r => nextP prev i (x i) = true ∧ chainF x (some (i, x i)) r
section
variable {T : Nat → List Int}
end
/-- numbers that the titles can have -/
def TruN (n : Nat) (T : Nat → List Int) (x : Nat → Int) : Prop := ∀ i, i < n → x i ∈ T i
/-- titles are in the order of some numbers -/
def IsOrd (n : Nat) (x : Nat → Int) (π : List Nat) : Prop := π.Perm (List.range n) ∧ chainF x none π
theorem chain_from {x : Nat → Int} : ∀ (l : List Nat) (i : Nat), chainF x (some (i, x i)) l → ∀ j ∈ l, ahd i (x i) j (x j) = true := by
  intro l
  induction l with
  | nil => intro i _ j hj; cases hj
  | cons k r ih =>
    intro i h j hj
    rcases List.mem_cons.1 hj with e | e
    · subst e; exact h.1
    · exact ahd_trans h.1 (ih k h.2 j e)
theorem chain_pairwise {x : Nat → Int} : ∀ (l : List Nat) (prev : Option (Nat × Int)), chainF x prev l → l.Pairwise fun i j => ahd i (x i) j (x j) = true := by
  intro l
  induction l with
  | nil => intro _ _; exact List.Pairwise.nil
  | cons i r ih => intro prev h; exact List.pairwise_cons.2 ⟨chain_from r i h.2, ih _ h.2⟩
theorem pairwise_chain {x : Nat → Int} : ∀ (l : List Nat), (l.Pairwise fun i j => ahd i (x i) j (x j) = true) → ∀ prev, (∀ i, l.head? = some i → nextP prev i (x i) = true) → chainF x prev l := by
  intro l
  induction l with
  | nil => intro _ _ _; trivial
  | cons i r ih =>
    intro h prev hp
    have h' := List.pairwise_cons.1 h
    refine ⟨hp i rfl, ih h'.2 _ fun j hj => ?_⟩
    exact h'.1 j (List.mem_of_mem_head? hj)
theorem pair_rank {x : Nat → Int} {l : List Nat} (h : l.Pairwise fun i j => ahd i (x i) j (x j) = true) {k : Nat} (hk : k < l.length) : l.countP (fun j => ahd j (x j) l[k] (x l[k])) = k := by
  obtain ⟨v, hv⟩ : ∃ v, v = l[k] := ⟨_, rfl⟩
  rw [← hv]
  have e : l = l.take k ++ v :: l.drop (k + 1) := by rw [hv, ← List.drop_eq_getElem_cons hk, List.take_append_drop]
  have hd := h
  rw [e] at hd
  have hp2 := List.pairwise_append.1 hd
  have hp3 := List.pairwise_cons.1 hp2.2.1
  have h1 : (l.take k).countP (fun j => ahd j (x j) v (x v)) = (l.take k).length := List.countP_eq_length.2 fun a ha => hp2.2.2 a ha v List.mem_cons_self
  have h2 : (l.drop (k + 1)).countP (fun j => ahd j (x j) v (x v)) = 0 := List.countP_eq_zero.2 fun a ha => by
    rw [ahd_asymm (hp3.1 a ha)]; decide
  rw [e, List.countP_append, List.countP_cons, h1, h2, if_neg (by rw [ahd_self]; decide), List.length_take]
  omega
theorem IsOrd.rank {n : Nat} {x : Nat → Int} {π : List Nat} (h : IsOrd n x π) {k : Nat} (hk : k < π.length) : rnk n x π[k] = k + 1 := by
  unfold rnk
  rw [← h.1.countP_eq, pair_rank (chain_pairwise π none h.2) hk]
  omega
theorem IsOrd.len {n : Nat} {x : Nat → Int} {π : List Nat} (h : IsOrd n x π) : π.length = n := by rw [h.1.length_eq]; simp
theorem IsOrd.lt {n : Nat} {x : Nat → Int} {π : List Nat} (h : IsOrd n x π) {k : Nat} (hk : k < π.length) : π[k] < n := List.mem_range.1 (h.1.subset (List.getElem_mem hk))
/-- an order whose titles have their places as ranks in some numbers is the order of these -/
theorem ord_of_rank {n : Nat} {x : Nat → Int} {π : List Nat} (hl : π.length = n) (hb : ∀ k (h : k < π.length), π[k] < n) (hr : ∀ k (h : k < π.length), rnk n x π[k] = k + 1) : IsOrd n x π := by
  have hnd : π.Nodup := by
    rw [List.nodup_iff_pairwise_ne, List.pairwise_iff_getElem]
    intro i j hi hj hij e
    have h1 := hr i hi
    have h2 := hr j hj
    rw [e, h2] at h1
    omega
  constructor
  · rw [List.perm_ext_iff_of_nodup hnd List.nodup_range]
    intro a
    constructor
    · intro ha
      obtain ⟨k, hk, rfl⟩ := List.getElem_of_mem ha
      exact List.mem_range.2 (hb k hk)
    · intro ha
      exact all_below hnd hl (fun k hk => by
        obtain ⟨i, hi, rfl⟩ := List.getElem_of_mem hk
        exact hb i hi) (List.mem_range.1 ha)
  · refine pairwise_chain π ?_ none fun _ _ => rfl
    rw [List.pairwise_iff_getElem]
    intro i j hi hj hij
    refine (rnk_lt_iff (hb i hi) (hb j hj)).1 ?_
    rw [hr i hi, hr j hj]
    omega
/-- some numbers have an order -/
theorem ord_ex (n : Nat) (x : Nat → Int) : ∃ π, IsOrd n x π := by
  have h : ∀ k, ∃ i, k < n → (i < n ∧ rnk n x i = k + 1) := fun k => by
    by_cases c : k < n
    · obtain ⟨i, h1, h2⟩ := rnk_at (n := n) x (k := k + 1) (by omega) (by omega)
      exact ⟨i, fun _ => ⟨h1, h2⟩⟩
    · exact ⟨0, fun h => absurd h c⟩
  obtain ⟨g, hg⟩ := Classical.axiomOfChoice h
  refine ⟨(List.range n).map g, ord_of_rank (by simp) (fun k hk => ?_) fun k hk => ?_⟩
  · simp only [List.length_map, List.length_range] at hk
    simpa using (hg k hk).1
  · simp only [List.length_map, List.length_range] at hk
    simpa using (hg k hk).2
section
variable {n : Nat} {T U : Nat → List Int}
end
end Go.Proofs.YtppncdbhebgcaaaGreatDoor
namespace Go.Proofs.YtppncdbhebgcaaaGreatDoor

abbrev Tab := List (List Int)
def rowT (T : Tab) (i : Nat) : List Int := T.getD i []
def loT (T : Tab) (i : Nat) : Int := (rowT T i).headD 0
def hiT (T : Tab) (i : Nat) : Int := (rowT T i).getLastD 0
def TabOK (T : Tab) : Prop := ∀ l ∈ T, l ≠ [] ∧ l.Pairwise (· < ·)
def waysT : Tab → Nat
  | [] => 1
  | r :: T => r.length * waysT T
theorem waysT_pos {T : Tab} (h : ∀ l ∈ T, l ≠ []) : 1 ≤ waysT T := by
  induction T with
  | nil => exact Nat.le_refl _
  | cons r T ih =>
    have h1 := ih fun l hl => h l (List.mem_cons_of_mem _ hl)
    have h2 : 0 < r.length := List.length_pos_iff.2 (h r List.mem_cons_self)
    exact Nat.mul_pos h2 h1
theorem rowT_get {T : Tab} {i : Nat} (h : i < T.length) : rowT T i = T[i] := by
  unfold rowT
  rw [List.getD_eq_getElem?_getD, List.getElem?_eq_getElem h]
  rfl
section
variable {T : Tab}
theorem TabOK.row (hT : TabOK T) (i : Nat) : (rowT T i).Pairwise (· < ·) := by
  by_cases h : i < T.length
  · rw [rowT_get h]; exact (hT _ (List.getElem_mem h)).2
  · unfold rowT
    rw [List.getD_eq_getElem?_getD, List.getElem?_eq_none (by omega)]
    exact List.Pairwise.nil
theorem TabOK.ne (hT : TabOK T) {i : Nat} (h : i < T.length) : rowT T i ≠ [] := by
  rw [rowT_get h]; exact (hT _ (List.getElem_mem h)).1
theorem head_mem {l : List Int} (h : l ≠ []) : l.headD 0 ∈ l := by
  cases l with
  | nil => exact absurd rfl h
  | cons a l => exact List.mem_cons_self
theorem last_mem {l : List Int} (h : l ≠ []) : l.getLastD 0 ∈ l := by
  cases l with
  | nil => exact absurd rfl h
  | cons a l => have e := (List.getLast_eq_getLastD (l := a :: l) (a := 0) (by simp)); rw [← e]; exact List.getLast_mem _
theorem head_le {l : List Int} (hs : l.Pairwise (· < ·)) {v : Int} (hv : v ∈ l) : l.headD 0 ≤ v := by
  cases l with
  | nil => cases hv
  | cons a l =>
    show a ≤ v
    rcases List.mem_cons.1 hv with e | e
    · omega
    · have := (List.pairwise_cons.1 hs).1 v e
      omega
theorem lo_mem (hT : TabOK T) {i : Nat} (h : i < T.length) : loT T i ∈ rowT T i := head_mem (hT.ne h)
theorem hi_mem (hT : TabOK T) {i : Nat} (h : i < T.length) : hiT T i ∈ rowT T i := last_mem (hT.ne h)
theorem lo_le (hT : TabOK T) {i : Nat} {v : Int} (hv : v ∈ rowT T i) : loT T i ≤ v := head_le (hT.row i) hv
end
section
variable {T : Tab}
end
/-- the title with a rank -/
def atN (n : Nat) (x : Nat → Int) (k : Int) : Int :=
  match (List.range n).find? fun i => decide ((rnk n x i : Int) = k) with
  | some i => i
  | none => -1
theorem atN_of {n : Nat} {x : Nat → Int} {k i : Nat} (hi : i < n) (h : rnk n x i = k) : atN n x k = i := by
  unfold atN
  cases hf : (List.range n).find? fun i => decide ((rnk n x i : Int) = k) with
  | none =>
    have := List.find?_eq_none.1 hf i (List.mem_range.2 hi)
    simp [h] at this
  | some j =>
    have h1 := List.find?_some hf
    have h2 := List.mem_range.1 (List.mem_of_find?_eq_some hf)
    simp only [decide_eq_true_eq] at h1
    rw [rnk_inj (x := x) h2 hi (by omega)]
theorem atN_ex {n : Nat} (x : Nat → Int) {k : Nat} (h1 : 1 ≤ k) (h2 : k ≤ n) : ∃ i : Nat, atN n x k = i ∧ i < n ∧ rnk n x i = k := by
  obtain ⟨i, hi, h⟩ := rnk_at (n := n) x h1 h2
  exact ⟨i, atN_of hi h, hi, h⟩
/-- the number with a rank -/
def cutN (n : Nat) (x : Nat → Int) (k : Int) : Int := x (atN n x k).toNat
theorem cut_kth {n : Nat} (x : Nat → Int) {k : Nat} (h1 : 1 ≤ k) (h2 : k ≤ n) : Kth n x k (cutN n x k) := by
  obtain ⟨i, he, hi, h⟩ := atN_ex (n := n) x h1 h2
  unfold cutN
  rw [he, Int.toNat_natCast, ← h]
  exact rnk_kth hi
section
variable {T : Tab}
/-- as the program finds it: among sorted numbers -/
theorem cut_sorted {n : Nat} {x : Nat → Int} {l : List Int} (hs : l.Pairwise (· ≤ ·)) (hp : l.Perm ((List.range n).map x)) {k : Nat} (h1 : 1 ≤ k) (h2 : k ≤ n) (hl : n - k < l.length) : l[n - k] = cutN n x k :=
  Kth.uniq (sorted_kth hs hp h1 h2 hl) (cut_kth x h1 h2)
end
theorem pick_congr {f g : Nat → Bool} {k : Nat} (h : ∀ i, i < k → f i = g i) : pickTo f k = pickTo g k := by
  unfold pickTo
  rw [List.filter_congr fun i hi => h i (List.mem_range.1 hi)]
section
variable {T : Tab}
end
/-- how many titles would still be before a title that has a number -/
def ndC (T : Tab) (i : Nat) (v : Int) : Nat := (List.range T.length).countP fun j => decide (j ≠ i) && ahd j (hiT T j) i v
def NeedP (T : Tab) (i : Nat) (f : Int) (v : Int) : Prop := (1 + ndC T i v : Int) ≤ f
def IsNeed (T : Tab) (i : Nat) (f : Int) (a : Int) : Prop := 0 ≤ a ∧ NeedP T i f (loT T i + a) ∧ ∀ m, 0 ≤ m → m < a → ¬NeedP T i f (loT T i + m)
theorem IsNeed.uniq {T : Tab} {i : Nat} {f a b : Int} (h : IsNeed T i f a) (h' : IsNeed T i f b) : a = b := by
  refine Classical.byContradiction fun hne => ?_
  rcases Int.lt_or_gt_of_ne hne with c | c
  · exact h'.2.2 a h.1 c h.2.1
  · exact h.2.2 b h'.1 c h'.2.1
theorem ndC_mono {T : Tab} {i : Nat} {v v' : Int} (h : v ≤ v') : ndC T i v' ≤ ndC T i v :=
  countP_le_of _ fun j _ hj => by
    rw [Bool.and_eq_true] at hj ⊢
    exact ⟨hj.1, ahd_mono hj.2 (Int.le_refl _) h⟩
theorem NeedP.mono {T : Tab} {i : Nat} {f v v' : Int} (h : NeedP T i f v) (hv : v ≤ v') : NeedP T i f v' := by
  have := ndC_mono (T := T) (i := i) hv
  unfold NeedP at h ⊢
  omega
end Go.Proofs.YtppncdbhebgcaaaGreatDoor
namespace Go.Proofs.YtppncdbhebgcaaaGreatDoor

theorem map_add_ok {l : List Int} (m : Int) (h : l ≠ [] ∧ l.Pairwise (· < ·)) : l.map (· + m) ≠ [] ∧ (l.map (· + m)).Pairwise (· < ·) :=
  ⟨fun e => h.1 (List.map_eq_nil_iff.1 e), List.pairwise_map.2 (h.2.imp fun h => by omega)⟩
section
variable {T : Tab}
end
end Go.Proofs.YtppncdbhebgcaaaGreatDoor
namespace Go.Proofs.YtppncdbhebgcaaaGreatDoor
open Go.RowKit

end Go.Proofs.YtppncdbhebgcaaaGreatDoor
