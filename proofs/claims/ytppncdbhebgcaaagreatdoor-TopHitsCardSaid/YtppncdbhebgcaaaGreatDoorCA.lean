
/- Charts: ranks, cuts and orders of numbers that are not known: the plain law, without a program. Charts: how many orders there are: the plain law, without a program. Charts: the answers, out of the numbers of all titles: what the reference reckons over all truths, and what the program reckons: plain law. Charts: how much more a title needs, and all orders, as the reference and the program find them: plain law. Charts: how many titles are in Top and May. -/
import Derived.Test.YtppncdbhebgcaaaGreatDoorXA
import Derived.Test.YtppncdbhebgcaaaGreatDoorXE
namespace Go.Proofs.YtppncdbhebgcaaaGreatDoor

/-- a title with a number comes before another one -/
def ahd (j : Nat) (m : Int) (i : Nat) (n : Int) : Bool := decide (n < m) || (decide (m = n) && decide (j < i))
theorem ahd_iff {j i : Nat} {m n : Int} : ahd j m i n = true ↔ n < m ∨ (m = n ∧ j < i) := by simp [ahd]
theorem ahd_self (i : Nat) (m : Int) : ahd i m i m = false := by
  rw [Bool.eq_false_iff]; intro h; rw [ahd_iff] at h; omega
theorem ahd_mono {j i : Nat} {m n m' n' : Int} (h : ahd j m i n = true) (h1 : m ≤ m') (h2 : n' ≤ n) : ahd j m' i n' = true := by
  rw [ahd_iff] at h ⊢; omega
theorem ahd_trans {i j k : Nat} {a b c : Int} (h : ahd i a j b = true) (h' : ahd j b k c = true) : ahd i a k c = true := by
  rw [ahd_iff] at h h' ⊢; omega
theorem ahd_asymm {i j : Nat} {a b : Int} (h : ahd i a j b = true) : ahd j b i a = false := by
  rw [Bool.eq_false_iff]; intro h'; rw [ahd_iff] at h h'; omega
theorem ahd_total {i j : Nat} (a b : Int) (h : i ≠ j) : ahd i a j b = true ∨ ahd j b i a = true := by
  rw [ahd_iff, ahd_iff]; omega
/-- the rank of a title in a truth -/
def rnk (n : Nat) (x : Nat → Int) (i : Nat) : Nat := 1 + (List.range n).countP fun j => ahd j (x j) i (x i)
def rnkLo (n : Nat) (lo hi : Nat → Int) (i : Nat) : Nat := 1 + (List.range n).countP fun j => decide (j ≠ i) && ahd j (lo j) i (hi i)
def rnkHi (n : Nat) (lo hi : Nat → Int) (i : Nat) : Nat := 1 + (List.range n).countP fun j => decide (j ≠ i) && ahd j (hi j) i (lo i)
theorem countP_le_of {α : Type} {p q : α → Bool} : ∀ (l : List α), (∀ x ∈ l, p x = true → q x = true) → l.countP p ≤ l.countP q := by
  intro l h
  exact List.countP_mono_left h
theorem rnk_ne (n : Nat) (x : Nat → Int) (i : Nat) : rnk n x i = 1 + (List.range n).countP fun j => decide (j ≠ i) && ahd j (x j) i (x i) := by
  unfold rnk
  congr 1
  refine List.countP_congr fun j _ => ?_
  by_cases e : j = i
  · subst e; simp [ahd_self]
  · simp [e]
section
variable {n : Nat} {lo hi x y : Nat → Int}
theorem rnkLo_le (h1 : ∀ j, j < n → lo j ≤ x j) (h2 : ∀ j, j < n → x j ≤ hi j) {i : Nat} (hi' : i < n) : rnkLo n lo hi i ≤ rnk n x i := by
  rw [rnk_ne]
  unfold rnkLo
  refine Nat.add_le_add_left (countP_le_of _ fun j hj h => ?_) 1
  rw [Bool.and_eq_true] at h ⊢
  exact ⟨h.1, ahd_mono h.2 (h1 j (List.mem_range.1 hj)) (h2 i hi')⟩
theorem le_rnkHi (h1 : ∀ j, j < n → lo j ≤ x j) (h2 : ∀ j, j < n → x j ≤ hi j) {i : Nat} (hi' : i < n) : rnk n x i ≤ rnkHi n lo hi i := by
  rw [rnk_ne]
  unfold rnkHi
  refine Nat.add_le_add_left (countP_le_of _ fun j hj h => ?_) 1
  rw [Bool.and_eq_true] at h ⊢
  exact ⟨h.1, ahd_mono h.2 (h2 j (List.mem_range.1 hj)) (h1 i hi')⟩
/-- one title has a number of its own -/
def pin (i : Nat) (v : Int) (x : Nat → Int) : Nat → Int := fun j => if j = i then v else x j
theorem pin_self (i : Nat) (v : Int) (x : Nat → Int) : pin i v x i = v := if_pos rfl
theorem pin_ne {i j : Nat} (v : Int) (x : Nat → Int) (h : j ≠ i) : pin i v x j = x j := if_neg h
theorem rnkLo_at (i : Nat) : rnk n (pin i (hi i) lo) i = rnkLo n lo hi i := by
  rw [rnk_ne]
  unfold rnkLo
  congr 1
  refine List.countP_congr fun j _ => ?_
  by_cases e : j = i
  · simp [e]
  · simp [e, pin_self, pin_ne]
theorem rnkHi_at (i : Nat) : rnk n (pin i (lo i) hi) i = rnkHi n lo hi i := by
  rw [rnk_ne]
  unfold rnkHi
  congr 1
  refine List.countP_congr fun j _ => ?_
  by_cases e : j = i
  · simp [e]
  · simp [e, pin_self, pin_ne]
theorem rnk_pos (n : Nat) (x : Nat → Int) (i : Nat) : 1 ≤ rnk n x i := by unfold rnk; omega
theorem countP_lt_of {α : Type} {p : α → Bool} : ∀ {l : List α} {a : α}, a ∈ l → p a = false → l.countP p < l.length := by
  intro l
  induction l with
  | nil => intro a h; cases h
  | cons b l ih =>
    intro a h hp
    rw [List.countP_cons, List.length_cons]
    rcases List.mem_cons.1 h with e | h
    · subst e
      rw [if_neg (by rw [hp]; decide)]
      have := List.countP_le_length (p := p) (l := l)
      omega
    · have := ih h hp
      split <;> omega
theorem countP_lt_countP {α : Type} {p q : α → Bool} : ∀ {l : List α} {a : α}, (∀ x ∈ l, p x = true → q x = true) → a ∈ l → p a = false → q a = true → l.countP p < l.countP q := by
  intro l
  induction l with
  | nil => intro a _ h; cases h
  | cons b l ih =>
    intro a hle h hp hq
    rw [List.countP_cons, List.countP_cons]
    have hle' : ∀ x ∈ l, p x = true → q x = true := fun x hx => hle x (List.mem_cons_of_mem _ hx)
    have hb := hle b List.mem_cons_self
    rcases List.mem_cons.1 h with e | h
    · subst e
      rw [if_neg (by rw [hp]; decide), if_pos hq]
      have := countP_le_of l hle'
      omega
    · have := ih hle' h hp hq
      by_cases c : p b = true
      · rw [if_pos c, if_pos (hb c)]; omega
      · rw [if_neg c]; split <;> omega
theorem rnk_le {i : Nat} (h : i < n) : rnk n x i ≤ n := by
  have := countP_lt_of (p := fun j => ahd j (x j) i (x i)) (List.mem_range.2 h) (ahd_self i (x i))
  rw [List.length_range] at this
  unfold rnk
  omega
theorem rnk_lt {i j : Nat} (hi' : i < n) (h : ahd i (x i) j (x j) = true) : rnk n x i < rnk n x j := by
  unfold rnk
  have := countP_lt_countP (p := fun k => ahd k (x k) i (x i)) (q := fun k => ahd k (x k) j (x j)) (l := List.range n) (fun k _ hk => ahd_trans hk h) (List.mem_range.2 hi') (ahd_self i (x i)) h
  omega
theorem rnk_lt_iff {i j : Nat} (hi' : i < n) (hj : j < n) : rnk n x i < rnk n x j ↔ ahd i (x i) j (x j) = true := by
  refine ⟨fun h => ?_, rnk_lt hi'⟩
  have hne : i ≠ j := fun e => by subst e; omega
  rcases ahd_total (i := i) (j := j) (x i) (x j) hne with h' | h'
  · exact h'
  · have := rnk_lt hj h'
    omega
theorem rnk_inj {i j : Nat} (hi' : i < n) (hj : j < n) (h : rnk n x i = rnk n x j) : i = j := by
  refine Classical.byContradiction fun hne => ?_
  rcases ahd_total (i := i) (j := j) (x i) (x j) hne with h' | h'
  · have := rnk_lt hi' h'; omega
  · have := rnk_lt hj h'; omega
theorem nodup_len {α : Type} [DecidableEq α] : ∀ (l m : List α), l.Nodup → (∀ x ∈ l, x ∈ m) → l.length ≤ m.length := by
  intro l
  induction l with
  | nil => intro m _ _; exact Nat.zero_le _
  | cons a l ih =>
    intro m hn hs
    have ha : a ∈ m := hs a List.mem_cons_self
    have hn' := List.nodup_cons.1 hn
    have := ih (m.erase a) hn'.2 fun x hx => by
      have hxa : x ≠ a := fun e => hn'.1 (e ▸ hx)
      exact (List.mem_erase_of_ne hxa).2 (hs x (List.mem_cons_of_mem _ hx))
    rw [List.length_erase_of_mem ha] at this
    have hp : 0 < m.length := List.length_pos_of_mem ha
    rw [List.length_cons]
    omega
/-- so many different numbers below n are all numbers below n -/
theorem all_below {l : List Nat} {n : Nat} (hn : l.Nodup) (hl : l.length = n) (hb : ∀ k ∈ l, k < n) {k : Nat} (hk : k < n) : k ∈ l := by
  refine Classical.byContradiction fun h => ?_
  have h1 := nodup_len l ((List.range n).erase k) hn fun x hx => by
    have hxk : x ≠ k := fun e => h (e ▸ hx)
    exact (List.mem_erase_of_ne hxk).2 (List.mem_range.2 (hb x hx))
  rw [List.length_erase_of_mem (List.mem_range.2 hk), List.length_range] at h1
  omega
/-- there is a title with each rank -/
theorem rnk_at (x : Nat → Int) {k : Nat} (h1 : 1 ≤ k) (h2 : k ≤ n) : ∃ i, i < n ∧ rnk n x i = k := by
  have hn : ((List.range n).map fun i => rnk n x i - 1).Nodup := by
    rw [List.nodup_iff_pairwise_ne, List.pairwise_map]
    refine List.Pairwise.imp_of_mem ?_ (List.nodup_iff_pairwise_ne.1 List.nodup_range)
    intro a b ha hb hne e0
    have e : rnk n x a - 1 = rnk n x b - 1 := e0
    have := rnk_pos n x a
    have := rnk_pos n x b
    exact hne (rnk_inj (x := x) (List.mem_range.1 ha) (List.mem_range.1 hb) (by omega))
  have hm := all_below (n := n) hn (by simp) (fun k hk => by
    obtain ⟨i, hi, rfl⟩ := List.mem_map.1 hk
    have := rnk_le (x := x) (List.mem_range.1 hi)
    have := rnk_pos n x i
    have := List.mem_range.1 hi
    omega) (k := k - 1) (by omega)
  obtain ⟨i, hi, he⟩ := List.mem_map.1 hm
  have := rnk_pos n x i
  exact ⟨i, List.mem_range.1 hi, by omega⟩
/-- v is the number with a rank -/
def Kth (n : Nat) (x : Nat → Int) (k : Nat) (v : Int) : Prop := (List.range n).countP (fun j => decide (v < x j)) < k ∧ k ≤ (List.range n).countP fun j => decide (v ≤ x j)
theorem Kth.uniq {k : Nat} {v v' : Int} (h : Kth n x k v) (h' : Kth n x k v') : v = v' := by
  refine Classical.byContradiction fun hne => ?_
  rcases Int.lt_or_gt_of_ne hne with c | c
  · have := countP_le_of (p := fun j => decide (v' ≤ x j)) (q := fun j => decide (v < x j)) (List.range n) fun j _ h => by
      simp only [decide_eq_true_eq] at h ⊢; omega
    have := h.1; have := h'.2; omega
  · have := countP_le_of (p := fun j => decide (v ≤ x j)) (q := fun j => decide (v' < x j)) (List.range n) fun j _ h => by
      simp only [decide_eq_true_eq] at h ⊢; omega
    have := h.2; have := h'.1; omega
theorem Kth.mono {k : Nat} {v v' : Int} (h : Kth n x k v) (h' : Kth n y k v') (hle : ∀ j, j < n → x j ≤ y j) : v ≤ v' := by
  refine Int.not_lt.1 fun c => ?_
  have := countP_le_of (p := fun j => decide (v ≤ x j)) (q := fun j => decide (v' < y j)) (List.range n) fun j hj h => by
    have := hle j (List.mem_range.1 hj)
    simp only [decide_eq_true_eq] at h ⊢; omega
  have := h.2; have := h'.1; omega
theorem rnk_kth {i : Nat} (h : i < n) : Kth n x (rnk n x i) (x i) := by
  unfold Kth rnk
  constructor
  · have := countP_le_of (p := fun j => decide (x i < x j)) (q := fun j => ahd j (x j) i (x i)) (List.range n) fun j _ h => by
      rw [ahd_iff]; simp only [decide_eq_true_eq] at h; omega
    omega
  · have := countP_lt_countP (p := fun j => ahd j (x j) i (x i)) (q := fun j => decide (x i ≤ x j)) (l := List.range n) (a := i) (fun j _ h => by
      rw [ahd_iff] at h; simp only [decide_eq_true_eq]; omega) (List.mem_range.2 h) (ahd_self i (x i)) (by simp)
    omega
theorem range_count (n : Nat) (x : Nat → Int) (p : Int → Bool) : (List.range n).countP (fun j => p (x j)) = ((List.range n).map x).countP p := by
  rw [List.countP_map]; rfl
/-- the number with a rank, of numbers that were sorted -/
theorem sorted_kth {l : List Int} (hs : l.Pairwise (· ≤ ·)) (hp : l.Perm ((List.range n).map x)) {k : Nat} (h1 : 1 ≤ k) (h2 : k ≤ n) (hl : n - k < l.length) : Kth n x k l[n - k] := by
  have hlen : l.length = n := by rw [hp.length_eq]; simp
  unfold Kth
  rw [range_count n x fun a => decide (l[n - k] < a), range_count n x fun a => decide (l[n - k] ≤ a), ← hp.countP_eq, ← hp.countP_eq]
  obtain ⟨v, hv⟩ : ∃ v, v = l[n - k] := ⟨_, rfl⟩
  rw [← hv]
  have e : l = l.take (n - k) ++ v :: l.drop (n - k + 1) := by rw [hv, ← List.drop_eq_getElem_cons hl, List.take_append_drop]
  have hd := hs
  rw [e] at hd
  have hp2 := List.pairwise_append.1 hd
  have hp3 := List.pairwise_cons.1 hp2.2.1
  have ht : ∀ a ∈ l.take (n - k), a ≤ v := fun a ha => hp2.2.2 a ha v List.mem_cons_self
  have hdl : (l.drop (n - k + 1)).length = k - 1 := by rw [List.length_drop]; omega
  constructor
  · have h3 : (l.take (n - k)).countP (fun a => decide (v < a)) = 0 := List.countP_eq_zero.2 fun a ha => by
      have := ht a ha
      simp only [decide_eq_true_eq]; omega
    have h4 := List.countP_le_length (p := fun a => decide (v < a)) (l := l.drop (n - k + 1))
    rw [e, List.countP_append, List.countP_cons, h3, if_neg (by simp)]
    omega
  · have h4 : (l.drop (n - k + 1)).countP (fun a => decide (v ≤ a)) = (l.drop (n - k + 1)).length := List.countP_eq_length.2 fun a ha => by
      have := hp3.1 a ha
      simpa using this
    rw [e, List.countP_append, List.countP_cons, h4, if_pos (by simp)]
    omega
end
end Go.Proofs.YtppncdbhebgcaaaGreatDoor
namespace Go.Proofs.YtppncdbhebgcaaaGreatDoor

/-- a title with a number can come behind what came last -/
def nextP (prev : Option (Nat × Int)) (i : Nat) (v : Int) : Bool :=
  match prev with
  | none => true
  | some (j, m) => ahd j m i v
/-- the greatest number, of ascending ones, that is allowed -/
def bestV (p : Int → Bool) (l : List Int) : Option Int := l.reverse.find? p
/-- all orders of the titles that are left -/
def listO (T : Nat → List Int) : Nat → Option (Nat × Int) → List Nat → List (List Nat)
  | 0, _, _ => [[]]
  | f + 1, prev, rest => rest.flatMap fun i =>
    match bestV (nextP prev i) (T i) with
    | none => []
    | some v => (listO T f (some (i, v)) (rest.erase i)).map (i :: ·)
theorem listO_succ (T : Nat → List Int) (f : Nat) (prev : Option (Nat × Int)) (rest : List Nat) : listO T (f + 1) prev rest = rest.flatMap fun i =>
    match bestV (nextP prev i) (T i) with
    | none => []
    | some v => (listO T f (some (i, v)) (rest.erase i)).map (i :: ·) := rfl
/-- titles come in an order -/
def chainF (x : Nat → Int) : Option (Nat × Int) → List Nat → Prop
  | _, [] => True
  | prev, i :: r => nextP prev i (x i) = true ∧ chainF x (some (i, x i)) r
theorem chainF_congr {x y : Nat → Int} : ∀ (l : List Nat) (prev : Option (Nat × Int)), (∀ i ∈ l, x i = y i) → chainF x prev l → chainF y prev l := by
  intro l
  induction l with
  | nil => intro _ _ _; trivial
  | cons i r ih =>
    intro prev h hc
    have e := h i List.mem_cons_self
    refine ⟨by rw [← e]; exact hc.1, ?_⟩
    rw [← e]
    exact ih _ (fun j hj => h j (List.mem_cons_of_mem _ hj)) hc.2
theorem chainF_up {x : Nat → Int} {i : Nat} {a v : Int} (hv : a ≤ v) : ∀ (l : List Nat), chainF x (some (i, a)) l → chainF x (some (i, v)) l := by
  intro l h
  cases l with
  | nil => trivial
  | cons j r => exact ⟨ahd_mono h.1 hv (Int.le_refl _), h.2⟩
theorem bestV_some {p : Int → Bool} {l : List Int} {v : Int} (h : bestV p l = some v) : v ∈ l ∧ p v = true :=
  ⟨List.mem_reverse.1 (List.mem_of_find?_eq_some h), List.find?_some h⟩
theorem bestV_ge {p : Int → Bool} {l : List Int} (hs : l.Pairwise (· < ·)) {a : Int} (ha : a ∈ l) (hp : p a = true) : ∃ v, bestV p l = some v ∧ a ≤ v := by
  unfold bestV
  have hr : l.reverse.Pairwise (· > ·) := List.pairwise_reverse.2 (hs.imp fun h => h)
  have ha' : a ∈ l.reverse := List.mem_reverse.2 ha
  revert hr ha'
  generalize l.reverse = m
  intro hr ha'
  induction m with
  | nil => cases ha'
  | cons b m ih =>
    rw [List.find?_cons]
    have hr' := List.pairwise_cons.1 hr
    by_cases c : p b = true
    · rw [c]
      refine ⟨b, rfl, ?_⟩
      rcases List.mem_cons.1 ha' with e | e
      · omega
      · have := hr'.1 a e
        omega
    · rw [Bool.eq_false_iff.2 c]
      rcases List.mem_cons.1 ha' with e | e
      · exact absurd (e ▸ hp) c
      · exact ih hr'.2 e
section
variable {T : Nat → List Int}
theorem mem_listO (hT : ∀ i, (T i).Pairwise (· < ·)) : ∀ (f : Nat) (prev : Option (Nat × Int)) (rest : List Nat) (π : List Nat), rest.length = f → rest.Nodup →
    (π ∈ listO T f prev rest ↔ π.Perm rest ∧ ∃ x : Nat → Int, (∀ i ∈ rest, x i ∈ T i) ∧ chainF x prev π) := by
  intro f
  induction f with
  | zero =>
    intro prev rest π hl _
    have : rest = [] := List.length_eq_zero_iff.1 hl
    subst this
    constructor
    · intro h
      have : π = [] := by simpa [listO] using h
      subst this
      exact ⟨List.Perm.refl _, fun _ => 0, (fun i hi => by cases hi), trivial⟩
    · rintro ⟨h, -⟩
      have : π = [] := h.eq_nil
      subst this
      simp [listO]
  | succ f ih =>
    intro prev rest π hl hn
    have hmem : π ∈ listO T (f + 1) prev rest ↔ ∃ i ∈ rest, ∃ v, bestV (nextP prev i) (T i) = some v ∧ ∃ ρ, ρ ∈ listO T f (some (i, v)) (rest.erase i) ∧ π = i :: ρ := by
      rw [listO_succ, List.mem_flatMap]
      constructor
      · rintro ⟨i, hi, h⟩
        cases hb : bestV (nextP prev i) (T i) with
        | none => rw [hb] at h; cases h
        | some v =>
          rw [hb] at h
          obtain ⟨ρ, hρ, rfl⟩ := List.mem_map.1 h
          exact ⟨i, hi, v, hb, ρ, hρ, rfl⟩
      · rintro ⟨i, hi, v, hb, ρ, hρ, rfl⟩
        refine ⟨i, hi, ?_⟩
        rw [hb]
        exact List.mem_map.2 ⟨ρ, hρ, rfl⟩
    rw [hmem]
    constructor
    · rintro ⟨i, hi, v, hb, ρ, hρ, rfl⟩
      obtain ⟨hp, x, hx, hc⟩ := (ih _ _ _ (by rw [List.length_erase_of_mem hi]; omega) (hn.erase i)).1 hρ
      obtain ⟨hv, hnp⟩ := bestV_some hb
      have hni : i ∉ ρ := fun h => by
        have := hp.subset h
        exact (List.Nodup.not_mem_erase hn) this
      refine ⟨(hp.cons i).trans (List.perm_cons_erase hi).symm, pin i v x, fun j hj => ?_, ?_, ?_⟩
      · by_cases e : j = i
        · subst e; rw [pin_self]; exact hv
        · rw [pin_ne v x e]; exact hx j ((List.mem_erase_of_ne e).2 hj)
      · rw [pin_self]; exact hnp
      · rw [pin_self]
        refine chainF_congr ρ _ (fun j hj => ?_) hc
        have hne : j ≠ i := fun e => by rw [e] at hj; exact hni hj
        rw [pin_ne v x hne]
    · rintro ⟨hp, x, hx, hc⟩
      cases π with
      | nil =>
        have := hp.length_eq
        rw [hl] at this
        cases this
      | cons i ρ =>
        have hi : i ∈ rest := hp.subset List.mem_cons_self
        obtain ⟨v, hb, hle⟩ := bestV_ge (hT i) (hx i hi) hc.1
        refine ⟨i, hi, v, hb, ρ, ?_, rfl⟩
        refine (ih _ _ _ (by rw [List.length_erase_of_mem hi]; omega) (hn.erase i)).2 ⟨(List.cons_perm_iff_perm_erase.1 hp).2, x, fun j hj => hx j (List.mem_of_mem_erase hj), chainF_up hle _ hc.2⟩
theorem nodup_listO : ∀ (f : Nat) (prev : Option (Nat × Int)) (rest : List Nat), rest.Nodup → (listO T f prev rest).Nodup := by
  intro f
  induction f with
  | zero => intro _ _ _; simp [listO]
  | succ f ih =>
    intro prev rest hn
    rw [listO_succ, List.nodup_iff_pairwise_ne, List.pairwise_flatMap]
    constructor
    · intro i hi
      cases bestV (nextP prev i) (T i) with
      | none => exact List.Pairwise.nil
      | some v =>
        rw [List.pairwise_map]
        refine (List.nodup_iff_pairwise_ne.1 (ih (some (i, v)) _ (hn.erase i))).imp fun h e => h ?_
        injection e
    · refine (List.nodup_iff_pairwise_ne.1 hn).imp fun {a b} hab π hπ ρ hρ e => ?_
      subst e
      have hd : ∀ c, π ∈ (match bestV (nextP prev c) (T c) with
        | none => ([] : List (List Nat))
        | some v => (listO T f (some (c, v)) (rest.erase c)).map (c :: ·)) → π.head? = some c := by
        intro c hc
        cases hb : bestV (nextP prev c) (T c) with
        | none => rw [hb] at hc; cases hc
        | some v =>
          rw [hb] at hc
          obtain ⟨ρ, -, rfl⟩ := List.mem_map.1 hc
          rfl
      have h1 := hd a hπ
      have h2 := hd b hρ
      rw [h1] at h2
      exact hab (Option.some.inj h2)
end
/-- numbers that the titles can have -/
def TruN (n : Nat) (T : Nat → List Int) (x : Nat → Int) : Prop := ∀ i, i < n → x i ∈ T i
/-- titles are in the order of some numbers -/
def IsOrd (n : Nat) (x : Nat → Int) (π : List Nat) : Prop := π.Perm (List.range n) ∧ chainF x none π
theorem chain_from {x : Nat → Int} : ∀ (l : List Nat) (i : Nat), chainF x (some (i, x i)) l → ∀ j ∈ l, ahd i (x i) j (x j) = true := by
  intro l
  induction l with
  | nil => intro i _ j hj; cases hj
  | cons k r ih =>
    intro i h j hj
    rcases List.mem_cons.1 hj with e | e
    · subst e; exact h.1
    · exact ahd_trans h.1 (ih k h.2 j e)
theorem chain_pairwise {x : Nat → Int} : ∀ (l : List Nat) (prev : Option (Nat × Int)), chainF x prev l → l.Pairwise fun i j => ahd i (x i) j (x j) = true := by
  intro l
  induction l with
  | nil => intro _ _; exact List.Pairwise.nil
  | cons i r ih => intro prev h; exact List.pairwise_cons.2 ⟨chain_from r i h.2, ih _ h.2⟩
theorem pairwise_chain {x : Nat → Int} : ∀ (l : List Nat), (l.Pairwise fun i j => ahd i (x i) j (x j) = true) → ∀ prev, (∀ i, l.head? = some i → nextP prev i (x i) = true) → chainF x prev l := by
  intro l
  induction l with
  | nil => intro _ _ _; trivial
  | cons i r ih =>
    intro h prev hp
    have h' := List.pairwise_cons.1 h
    refine ⟨hp i rfl, ih h'.2 _ fun j hj => ?_⟩
    exact h'.1 j (List.mem_of_mem_head? hj)
theorem pair_rank {x : Nat → Int} {l : List Nat} (h : l.Pairwise fun i j => ahd i (x i) j (x j) = true) {k : Nat} (hk : k < l.length) : l.countP (fun j => ahd j (x j) l[k] (x l[k])) = k := by
  obtain ⟨v, hv⟩ : ∃ v, v = l[k] := ⟨_, rfl⟩
  rw [← hv]
  have e : l = l.take k ++ v :: l.drop (k + 1) := by rw [hv, ← List.drop_eq_getElem_cons hk, List.take_append_drop]
  have hd := h
  rw [e] at hd
  have hp2 := List.pairwise_append.1 hd
  have hp3 := List.pairwise_cons.1 hp2.2.1
  have h1 : (l.take k).countP (fun j => ahd j (x j) v (x v)) = (l.take k).length := List.countP_eq_length.2 fun a ha => hp2.2.2 a ha v List.mem_cons_self
  have h2 : (l.drop (k + 1)).countP (fun j => ahd j (x j) v (x v)) = 0 := List.countP_eq_zero.2 fun a ha => by
    rw [ahd_asymm (hp3.1 a ha)]; decide
  rw [e, List.countP_append, List.countP_cons, h1, h2, if_neg (by rw [ahd_self]; decide), List.length_take]
  omega
theorem IsOrd.rank {n : Nat} {x : Nat → Int} {π : List Nat} (h : IsOrd n x π) {k : Nat} (hk : k < π.length) : rnk n x π[k] = k + 1 := by
  unfold rnk
  rw [← h.1.countP_eq, pair_rank (chain_pairwise π none h.2) hk]
  omega
theorem IsOrd.len {n : Nat} {x : Nat → Int} {π : List Nat} (h : IsOrd n x π) : π.length = n := by rw [h.1.length_eq]; simp
theorem IsOrd.lt {n : Nat} {x : Nat → Int} {π : List Nat} (h : IsOrd n x π) {k : Nat} (hk : k < π.length) : π[k] < n := List.mem_range.1 (h.1.subset (List.getElem_mem hk))
/-- an order whose titles have their places as ranks in some numbers is the order of these -/
theorem ord_of_rank {n : Nat} {x : Nat → Int} {π : List Nat} (hl : π.length = n) (hb : ∀ k (h : k < π.length), π[k] < n) (hr : ∀ k (h : k < π.length), rnk n x π[k] = k + 1) : IsOrd n x π := by
  have hnd : π.Nodup := by
    rw [List.nodup_iff_pairwise_ne, List.pairwise_iff_getElem]
    intro i j hi hj hij e
    have h1 := hr i hi
    have h2 := hr j hj
    rw [e, h2] at h1
    omega
  constructor
  · rw [List.perm_ext_iff_of_nodup hnd List.nodup_range]
    intro a
    constructor
    · intro ha
      obtain ⟨k, hk, rfl⟩ := List.getElem_of_mem ha
      exact List.mem_range.2 (hb k hk)
    · intro ha
      exact all_below hnd hl (fun k hk => by
        obtain ⟨i, hi, rfl⟩ := List.getElem_of_mem hk
        exact hb i hi) (List.mem_range.1 ha)
  · refine pairwise_chain π ?_ none fun _ _ => rfl
    rw [List.pairwise_iff_getElem]
    intro i j hi hj hij
    refine (rnk_lt_iff (hb i hi) (hb j hj)).1 ?_
    rw [hr i hi, hr j hj]
    omega
theorem ord_same {n : Nat} {x y : Nat → Int} {π ρ : List Nat} (h : IsOrd n x π) (h' : IsOrd n y ρ) (hr : ∀ i, i < n → rnk n x i = rnk n y i) : π = ρ := by
  have hl := h.len
  have hl' := h'.len
  refine List.ext_getElem (by omega) fun k hk hk' => ?_
  have h1 := h.rank hk
  have h2 := h'.rank hk'
  rw [hr _ (h.lt hk)] at h1
  exact rnk_inj (h.lt hk) (h'.lt hk') (by rw [h1, h2])
/-- some numbers have an order -/
theorem ord_ex (n : Nat) (x : Nat → Int) : ∃ π, IsOrd n x π := by
  have h : ∀ k, ∃ i, k < n → (i < n ∧ rnk n x i = k + 1) := fun k => by
    by_cases c : k < n
    · obtain ⟨i, h1, h2⟩ := rnk_at (n := n) x (k := k + 1) (by omega) (by omega)
      exact ⟨i, fun _ => ⟨h1, h2⟩⟩
    · exact ⟨0, fun h => absurd h c⟩
  obtain ⟨g, hg⟩ := Classical.axiomOfChoice h
  refine ⟨(List.range n).map g, ord_of_rank (by simp) (fun k hk => ?_) fun k hk => ?_⟩
  · simp only [List.length_map, List.length_range] at hk
    simpa using (hg k hk).1
  · simp only [List.length_map, List.length_range] at hk
    simpa using (hg k hk).2
/-- all orders of n titles -/
def allO (n : Nat) (T : Nat → List Int) : List (List Nat) := listO T n none (List.range n)
section
variable {n : Nat} {T U : Nat → List Int}
theorem mem_allO (hT : ∀ i, (T i).Pairwise (· < ·)) {π : List Nat} : π ∈ allO n T ↔ ∃ x, TruN n T x ∧ IsOrd n x π := by
  unfold allO
  rw [mem_listO hT n none _ π (by simp) List.nodup_range]
  constructor
  · rintro ⟨hp, x, hx, hc⟩
    exact ⟨x, fun i hi => hx i (List.mem_range.2 hi), hp, hc⟩
  · rintro ⟨x, hx, hp, hc⟩
    exact ⟨hp, x, fun i hi => hx i (List.mem_range.1 hi), hc⟩
theorem nodup_allO : (allO n T).Nodup := nodup_listO _ _ _ List.nodup_range
theorem allO_pos (hT : ∀ i, (T i).Pairwise (· < ·)) (h : ∀ i, i < n → T i ≠ []) : 1 ≤ (allO n T).length := by
  have : ∀ i, ∃ v, i < n → v ∈ T i := fun i => by
    by_cases c : i < n
    · obtain ⟨v, hv⟩ := List.exists_mem_of_ne_nil _ (h i c)
      exact ⟨v, fun _ => hv⟩
    · exact ⟨0, fun h => absurd h c⟩
  obtain ⟨x, hx⟩ := Classical.axiomOfChoice this
  obtain ⟨π, hπ⟩ := ord_ex n x
  exact List.length_pos_of_mem ((mem_allO hT).2 ⟨x, hx, hπ⟩)
end
end Go.Proofs.YtppncdbhebgcaaaGreatDoor
namespace Go.Proofs.YtppncdbhebgcaaaGreatDoor

abbrev Tab := List (List Int)
def rowT (T : Tab) (i : Nat) : List Int := T.getD i []
def loT (T : Tab) (i : Nat) : Int := (rowT T i).headD 0
def hiT (T : Tab) (i : Nat) : Int := (rowT T i).getLastD 0
def TabOK (T : Tab) : Prop := ∀ l ∈ T, l ≠ [] ∧ l.Pairwise (· < ·)
def vT (t : List Int) (i : Nat) : Int := t.getD i 0
/-- all truths that begin with some numbers -/
def prL : Tab → List Int → Tab
  | [], f => [f]
  | r :: T, f => r.flatMap fun v => prL T (f ++ [v])
def waysT : Tab → Nat
  | [] => 1
  | r :: T => r.length * waysT T
theorem waysT_pos {T : Tab} (h : ∀ l ∈ T, l ≠ []) : 1 ≤ waysT T := by
  induction T with
  | nil => exact Nat.le_refl _
  | cons r T ih =>
    have h1 := ih fun l hl => h l (List.mem_cons_of_mem _ hl)
    have h2 : 0 < r.length := List.length_pos_iff.2 (h r List.mem_cons_self)
    exact Nat.mul_pos h2 h1
theorem rowT_cons (r : List Int) (T : Tab) (i : Nat) : rowT (r :: T) (i + 1) = rowT T i := by simp [rowT]
theorem mem_prL : ∀ (T : Tab) (f t : List Int), t ∈ prL T f ↔ ∃ u : List Int, t = f ++ u ∧ u.length = T.length ∧ ∀ i, i < T.length → vT u i ∈ rowT T i
  | [], f, t => by
    constructor
    · intro h
      have : t = f := by simpa [prL] using h
      exact ⟨[], by simp [this], rfl, fun i hi => absurd hi (by simp)⟩
    · rintro ⟨u, rfl, hl, -⟩
      have : u = [] := List.length_eq_zero_iff.1 hl
      subst this
      simp [prL]
  | r :: T, f, t => by
    unfold prL
    rw [List.mem_flatMap]
    constructor
    · rintro ⟨v, hv, h⟩
      obtain ⟨u, rfl, hl, hu⟩ := (mem_prL T _ _).1 h
      refine ⟨v :: u, by simp, by simp [hl], fun i hi => ?_⟩
      cases i with
      | zero => simpa [vT, rowT] using hv
      | succ i =>
        rw [rowT_cons]
        have := hu i (by simpa using hi)
        simpa [vT] using this
    · rintro ⟨u, rfl, hl, hu⟩
      cases u with
      | nil => simp at hl
      | cons v u =>
        refine ⟨v, by simpa [vT, rowT] using hu 0 (by simp), (mem_prL T _ _).2 ⟨u, by simp, by simpa using hl, fun i hi => ?_⟩⟩
        have := hu (i + 1) (by simpa using hi)
        rw [rowT_cons] at this
        simpa [vT] using this
theorem mem_prT {T : Tab} {t : List Int} : t ∈ prL T [] ↔ t.length = T.length ∧ TruN T.length (rowT T) (vT t) := by
  rw [mem_prL]
  constructor
  · rintro ⟨u, rfl, h1, h2⟩
    exact ⟨by simpa using h1, fun i hi => by simpa using h2 i hi⟩
  · rintro ⟨h1, h2⟩
    exact ⟨t, by simp, h1, h2⟩
theorem vT_map {n : Nat} (x : Nat → Int) {i : Nat} (h : i < n) : vT ((List.range n).map x) i = x i := by
  unfold vT
  rw [List.getD_eq_getElem?_getD, List.getElem?_map, List.getElem?_range h]
  rfl
theorem rnk_congr {n : Nat} {x y : Nat → Int} (h : ∀ i, i < n → x i = y i) {i : Nat} (hi : i < n) : rnk n x i = rnk n y i := by
  unfold rnk
  congr 1
  refine List.countP_congr fun j hj => ?_
  rw [h j (List.mem_range.1 hj), h i hi]
/-- numbers that the titles can have, as a truth -/
theorem tru_list {T : Tab} {x : Nat → Int} (h : TruN T.length (rowT T) x) : (List.range T.length).map x ∈ prL T [] := by
  refine mem_prT.2 ⟨by simp, fun i hi => ?_⟩
  rw [vT_map x hi]
  exact h i hi
theorem rowT_get {T : Tab} {i : Nat} (h : i < T.length) : rowT T i = T[i] := by
  unfold rowT
  rw [List.getD_eq_getElem?_getD, List.getElem?_eq_getElem h]
  rfl
section
variable {T : Tab}
theorem TabOK.row (hT : TabOK T) (i : Nat) : (rowT T i).Pairwise (· < ·) := by
  by_cases h : i < T.length
  · rw [rowT_get h]; exact (hT _ (List.getElem_mem h)).2
  · unfold rowT
    rw [List.getD_eq_getElem?_getD, List.getElem?_eq_none (by omega)]
    exact List.Pairwise.nil
theorem TabOK.ne (hT : TabOK T) {i : Nat} (h : i < T.length) : rowT T i ≠ [] := by
  rw [rowT_get h]; exact (hT _ (List.getElem_mem h)).1
theorem head_mem {l : List Int} (h : l ≠ []) : l.headD 0 ∈ l := by
  cases l with
  | nil => exact absurd rfl h
  | cons a l => exact List.mem_cons_self
theorem last_mem {l : List Int} (h : l ≠ []) : l.getLastD 0 ∈ l := by
  cases l with
  | nil => exact absurd rfl h
  | cons a l => have e := (List.getLast_eq_getLastD (l := a :: l) (a := 0) (by simp)); rw [← e]; exact List.getLast_mem _
theorem head_le {l : List Int} (hs : l.Pairwise (· < ·)) {v : Int} (hv : v ∈ l) : l.headD 0 ≤ v := by
  cases l with
  | nil => cases hv
  | cons a l =>
    show a ≤ v
    rcases List.mem_cons.1 hv with e | e
    · omega
    · have := (List.pairwise_cons.1 hs).1 v e
      omega
theorem le_last {l : List Int} (hs : l.Pairwise (· < ·)) {v : Int} (hv : v ∈ l) : v ≤ l.getLastD 0 := by
  revert v
  induction l with
  | nil => intro v hv; cases hv
  | cons a l ih =>
    intro v hv
    cases l with
    | nil =>
      have : v = a := by simpa using hv
      subst this
      exact Int.le_refl _
    | cons b l =>
      have hs' := List.pairwise_cons.1 hs
      have e : (a :: b :: l).getLastD 0 = (b :: l).getLastD 0 := by simp
      rw [e]
      rcases List.mem_cons.1 hv with c | c
      · subst c
        have h1 := hs'.1 b List.mem_cons_self
        have h2 := ih hs'.2 (v := b) List.mem_cons_self
        omega
      · exact ih hs'.2 c
theorem lo_mem (hT : TabOK T) {i : Nat} (h : i < T.length) : loT T i ∈ rowT T i := head_mem (hT.ne h)
theorem hi_mem (hT : TabOK T) {i : Nat} (h : i < T.length) : hiT T i ∈ rowT T i := last_mem (hT.ne h)
theorem lo_le (hT : TabOK T) {i : Nat} {v : Int} (hv : v ∈ rowT T i) : loT T i ≤ v := head_le (hT.row i) hv
theorem le_hi (hT : TabOK T) {i : Nat} {v : Int} (hv : v ∈ rowT T i) : v ≤ hiT T i := le_last (hT.row i) hv
theorem tru_lo (hT : TabOK T) : TruN T.length (rowT T) (loT T) := fun _ hi => lo_mem hT hi
theorem tru_hi (hT : TabOK T) : TruN T.length (rowT T) (hiT T) := fun _ hi => hi_mem hT hi
theorem tru_pin {x : Nat → Int} (hx : TruN T.length (rowT T) x) {i : Nat} {v : Int} (hv : v ∈ rowT T i) : TruN T.length (rowT T) (pin i v x) := by
  intro j hj
  by_cases e : j = i
  · subst e; rw [pin_self]; exact hv
  · rw [pin_ne v x e]; exact hx j hj
end
/-- the least and the greatest of all -/
theorem fold_min {α : Type} {f : α → Int} {m : Int} : ∀ (l : List α) (a : Int), m ≤ a → (∀ t ∈ l, m ≤ f t) → (a = m ∨ ∃ t ∈ l, f t = m) → l.foldl (fun s t => min s (f t)) a = m := by
  intro l
  induction l with
  | nil =>
    intro a _ _ h
    rcases h with h | ⟨t, ht, -⟩
    · exact h
    · cases ht
  | cons b l ih =>
    intro a h1 h2 h3
    rw [List.foldl_cons]
    have hb := h2 b List.mem_cons_self
    refine ih _ (by omega) (fun t ht => h2 t (List.mem_cons_of_mem _ ht)) ?_
    rcases h3 with h | ⟨t, ht, he⟩
    · left; omega
    · rcases List.mem_cons.1 ht with e | e
      · subst e; left; omega
      · exact Or.inr ⟨t, e, he⟩
theorem fold_max {α : Type} {f : α → Int} {m : Int} : ∀ (l : List α) (a : Int), a ≤ m → (∀ t ∈ l, f t ≤ m) → (a = m ∨ ∃ t ∈ l, f t = m) → l.foldl (fun s t => max s (f t)) a = m := by
  intro l
  induction l with
  | nil =>
    intro a _ _ h
    rcases h with h | ⟨t, ht, -⟩
    · exact h
    · cases ht
  | cons b l ih =>
    intro a h1 h2 h3
    rw [List.foldl_cons]
    have hb := h2 b List.mem_cons_self
    refine ih _ (by omega) (fun t ht => h2 t (List.mem_cons_of_mem _ ht)) ?_
    rcases h3 with h | ⟨t, ht, he⟩
    · left; omega
    · rcases List.mem_cons.1 ht with e | e
      · subst e; left; omega
      · exact Or.inr ⟨t, e, he⟩
/-- the least rank of a title, and the greatest one -/
def rkLo (T : Tab) (i : Nat) : Nat := rnkLo T.length (loT T) (hiT T) i
def rkHi (T : Tab) (i : Nat) : Nat := rnkHi T.length (loT T) (hiT T) i
/-- as the reference finds them: over the first truths -/
def rkRef (T : Tab) (i : Nat) (k : Nat) : Int × Int := ((prL T []).take k).foldl (fun s t => (min s.1 (rnk T.length (vT t) i : Int), max s.2 (rnk T.length (vT t) i : Int))) ((T.length : Int), 1)
theorem foldl_pair {α : Type} (f : α → Int) : ∀ (l : List α) (a b : Int), l.foldl (fun s t => (min s.1 (f t), max s.2 (f t))) (a, b) = (l.foldl (fun s t => min s (f t)) a, l.foldl (fun s t => max s (f t)) b) := by
  intro l
  induction l with
  | nil => intro a b; rfl
  | cons c l ih => intro a b; rw [List.foldl_cons, List.foldl_cons, List.foldl_cons]; exact ih _ _
section
variable {T : Tab}
theorem rk_bounds (hT : TabOK T) {i : Nat} (hi : i < T.length) {x : Nat → Int} (hx : TruN T.length (rowT T) x) : rkLo T i ≤ rnk T.length x i ∧ rnk T.length x i ≤ rkHi T i :=
  ⟨rnkLo_le (fun j hj => lo_le hT (hx j hj)) (fun j hj => le_hi hT (hx j hj)) hi, le_rnkHi (fun j hj => lo_le hT (hx j hj)) (fun j hj => le_hi hT (hx j hj)) hi⟩
theorem rkLo_ex (hT : TabOK T) {i : Nat} (hi : i < T.length) : ∃ x, TruN T.length (rowT T) x ∧ rnk T.length x i = rkLo T i := ⟨_, tru_pin (tru_lo hT) (hi_mem hT hi), rnkLo_at i⟩
theorem rkHi_ex (hT : TabOK T) {i : Nat} (hi : i < T.length) : ∃ x, TruN T.length (rowT T) x ∧ rnk T.length x i = rkHi T i := ⟨_, tru_pin (tru_hi hT) (lo_mem hT hi), rnkHi_at i⟩
theorem rk_le (hT : TabOK T) {i : Nat} (hi : i < T.length) : 1 ≤ rkLo T i ∧ rkLo T i ≤ rkHi T i ∧ rkHi T i ≤ T.length := by
  obtain ⟨x, hx, h⟩ := rkHi_ex hT hi
  have h1 := rk_bounds hT hi hx
  have h2 := rnk_le (x := x) hi
  refine ⟨by unfold rkLo rnkLo; omega, by omega, by omega⟩
theorem rk_ref (hT : TabOK T) {i : Nat} (hi : i < T.length) : rkRef T i (prL T []).length = ((rkLo T i : Int), (rkHi T i : Int)) := by
  have hb := rk_le hT hi
  unfold rkRef
  rw [List.take_length, foldl_pair (fun t => (rnk T.length (vT t) i : Int))]
  have hmem : ∀ t ∈ prL T [], rkLo T i ≤ rnk T.length (vT t) i ∧ rnk T.length (vT t) i ≤ rkHi T i := fun t ht => rk_bounds hT hi (mem_prT.1 ht).2
  obtain ⟨x, hx, h1⟩ := rkLo_ex hT hi
  obtain ⟨y, hy, h2⟩ := rkHi_ex hT hi
  refine Prod.ext (fold_min _ _ (by omega) (fun t ht => by have := hmem t ht; omega) (Or.inr ⟨_, tru_list hx, ?_⟩)) (fold_max _ _ (by omega) (fun t ht => by have := hmem t ht; omega) (Or.inr ⟨_, tru_list hy, ?_⟩))
  · rw [rnk_congr (fun j hj => vT_map x hj) hi, h1]
  · rw [rnk_congr (fun j hj => vT_map y hj) hi, h2]
end
/-- the title with a rank -/
def atN (n : Nat) (x : Nat → Int) (k : Int) : Int :=
  match (List.range n).find? fun i => decide ((rnk n x i : Int) = k) with
  | some i => i
  | none => -1
theorem atN_of {n : Nat} {x : Nat → Int} {k i : Nat} (hi : i < n) (h : rnk n x i = k) : atN n x k = i := by
  unfold atN
  cases hf : (List.range n).find? fun i => decide ((rnk n x i : Int) = k) with
  | none =>
    have := List.find?_eq_none.1 hf i (List.mem_range.2 hi)
    simp [h] at this
  | some j =>
    have h1 := List.find?_some hf
    have h2 := List.mem_range.1 (List.mem_of_find?_eq_some hf)
    simp only [decide_eq_true_eq] at h1
    rw [rnk_inj (x := x) h2 hi (by omega)]
theorem atN_ex {n : Nat} (x : Nat → Int) {k : Nat} (h1 : 1 ≤ k) (h2 : k ≤ n) : ∃ i : Nat, atN n x k = i ∧ i < n ∧ rnk n x i = k := by
  obtain ⟨i, hi, h⟩ := rnk_at (n := n) x h1 h2
  exact ⟨i, atN_of hi h, hi, h⟩
/-- the number with a rank -/
def cutN (n : Nat) (x : Nat → Int) (k : Int) : Int := x (atN n x k).toNat
theorem cut_kth {n : Nat} (x : Nat → Int) {k : Nat} (h1 : 1 ≤ k) (h2 : k ≤ n) : Kth n x k (cutN n x k) := by
  obtain ⟨i, he, hi, h⟩ := atN_ex (n := n) x h1 h2
  unfold cutN
  rw [he, Int.toNat_natCast, ← h]
  exact rnk_kth hi
theorem kth_congr {n : Nat} {x y : Nat → Int} (h : ∀ i, i < n → x i = y i) {k : Nat} {v : Int} (hk : Kth n x k v) : Kth n y k v := by
  unfold Kth at hk ⊢
  have e1 : (List.range n).countP (fun j => decide (v < y j)) = (List.range n).countP (fun j => decide (v < x j)) := List.countP_congr fun j hj => by rw [h j (List.mem_range.1 hj)]
  have e2 : (List.range n).countP (fun j => decide (v ≤ y j)) = (List.range n).countP (fun j => decide (v ≤ x j)) := List.countP_congr fun j hj => by rw [h j (List.mem_range.1 hj)]
  rw [e1, e2]
  exact hk
/-- as the reference finds it: over the first truths -/
def cutRef (T : Tab) (k : Int) (m : Nat) : Int × Int :=
  match (prL T []).take m with
  | [] => (0, 0)
  | t :: l => (t :: l).foldl (fun s t => (min s.1 (cutN T.length (vT t) k), max s.2 (cutN T.length (vT t) k))) (cutN T.length (vT t) k, cutN T.length (vT t) k)
section
variable {T : Tab}
theorem cut_bounds (hT : TabOK T) {k : Nat} (h1 : 1 ≤ k) (h2 : k ≤ T.length) {x : Nat → Int} (hx : TruN T.length (rowT T) x) : cutN T.length (loT T) k ≤ cutN T.length x k ∧ cutN T.length x k ≤ cutN T.length (hiT T) k :=
  ⟨Kth.mono (cut_kth _ h1 h2) (cut_kth _ h1 h2) fun j hj => lo_le hT (hx j hj), Kth.mono (cut_kth _ h1 h2) (cut_kth _ h1 h2) fun j hj => le_hi hT (hx j hj)⟩
theorem prL_ne (hT : TabOK T) : prL T [] ≠ [] := by
  intro h
  have h1 := tru_list (tru_lo hT)
  rw [h] at h1
  cases h1
theorem cut_ref (hT : TabOK T) {k : Nat} (h1 : 1 ≤ k) (h2 : k ≤ T.length) : cutRef T k (prL T []).length = (cutN T.length (loT T) k, cutN T.length (hiT T) k) := by
  unfold cutRef
  rw [List.take_length]
  have hmem : ∀ t ∈ prL T [], cutN T.length (loT T) k ≤ cutN T.length (vT t) k ∧ cutN T.length (vT t) k ≤ cutN T.length (hiT T) k := fun t ht => cut_bounds hT h1 h2 (mem_prT.1 ht).2
  have hlo := tru_list (tru_lo hT)
  have hhi := tru_list (tru_hi hT)
  have e : ∀ x : Nat → Int, cutN T.length (vT ((List.range T.length).map x)) k = cutN T.length x k := fun x => Kth.uniq (kth_congr (fun i hi => vT_map x hi) (cut_kth _ h1 h2)) (cut_kth _ h1 h2)
  have hne := prL_ne hT
  revert hmem hlo hhi hne
  generalize prL T [] = L
  intro hmem hlo hhi hne
  cases L with
  | nil => exact absurd rfl hne
  | cons t l =>
    have ht := hmem t List.mem_cons_self
    simp only
    rw [foldl_pair (fun t => cutN T.length (vT t) k)]
    exact Prod.ext (fold_min _ _ ht.1 (fun u hu => (hmem u hu).1) (Or.inr ⟨_, hlo, e _⟩)) (fold_max _ _ ht.2 (fun u hu => (hmem u hu).2) (Or.inr ⟨_, hhi, e _⟩))
/-- as the program finds it: among sorted numbers -/
theorem cut_sorted {n : Nat} {x : Nat → Int} {l : List Int} (hs : l.Pairwise (· ≤ ·)) (hp : l.Perm ((List.range n).map x)) {k : Nat} (h1 : 1 ≤ k) (h2 : k ≤ n) (hl : n - k < l.length) : l[n - k] = cutN n x k :=
  Kth.uniq (sorted_kth hs hp h1 h2 hl) (cut_kth x h1 h2)
end
/-- the titles that surely are among the first ones, or may be -/
def topF (T : Tab) (f : Int) (i : Nat) : Bool := decide ((rkHi T i : Int) ≤ f)
def mayF (T : Tab) (f : Int) (i : Nat) : Bool := decide ((rkLo T i : Int) ≤ f)
def topL (T : Tab) (f : Int) : List Int := pickTo (topF T f) T.length
def mayL (T : Tab) (f : Int) : List Int := pickTo (mayF T f) T.length
theorem pick_len (f : Nat → Bool) (k : Nat) : (pickTo f k).length = (List.range k).countP f := by
  unfold pickTo
  rw [List.length_map, List.countP_eq_length_filter]
theorem pick_congr {f g : Nat → Bool} {k : Nat} (h : ∀ i, i < k → f i = g i) : pickTo f k = pickTo g k := by
  unfold pickTo
  rw [List.filter_congr fun i hi => h i (List.mem_range.1 hi)]
section
variable {T : Tab}
end
/-- how many titles would still be before a title that has a number -/
def ndC (T : Tab) (i : Nat) (v : Int) : Nat := (List.range T.length).countP fun j => decide (j ≠ i) && ahd j (hiT T j) i v
def NeedP (T : Tab) (i : Nat) (f : Int) (v : Int) : Prop := (1 + ndC T i v : Int) ≤ f
def IsNeed (T : Tab) (i : Nat) (f : Int) (a : Int) : Prop := 0 ≤ a ∧ NeedP T i f (loT T i + a) ∧ ∀ m, 0 ≤ m → m < a → ¬NeedP T i f (loT T i + m)
theorem IsNeed.uniq {T : Tab} {i : Nat} {f a b : Int} (h : IsNeed T i f a) (h' : IsNeed T i f b) : a = b := by
  refine Classical.byContradiction fun hne => ?_
  rcases Int.lt_or_gt_of_ne hne with c | c
  · exact h'.2.2 a h.1 c h.2.1
  · exact h.2.2 b h'.1 c h'.2.1
theorem ndC_mono {T : Tab} {i : Nat} {v v' : Int} (h : v ≤ v') : ndC T i v' ≤ ndC T i v :=
  countP_le_of _ fun j _ hj => by
    rw [Bool.and_eq_true] at hj ⊢
    exact ⟨hj.1, ahd_mono hj.2 (Int.le_refl _) h⟩
theorem NeedP.mono {T : Tab} {i : Nat} {f v v' : Int} (h : NeedP T i f v) (hv : v ≤ v') : NeedP T i f v' := by
  have := ndC_mono (T := T) (i := i) hv
  unfold NeedP at h ⊢
  omega
theorem rkHi_need (T : Tab) (i : Nat) : rkHi T i = 1 + ndC T i (loT T i) := rfl
end Go.Proofs.YtppncdbhebgcaaaGreatDoor
namespace Go.Proofs.YtppncdbhebgcaaaGreatDoor

/-- with which number a title comes before each other one for sure -/
def wantTo (T : Tab) (i : Nat) (k : Nat) : List Int := ((List.range k).filter fun j => decide (j ≠ i)).map fun j => hiT T j + if j < i then 1 else 0
theorem wantTo_succ (T : Tab) (i k : Nat) : wantTo T i (k + 1) = wantTo T i k ++ if k = i then [] else [hiT T k + if k < i then 1 else 0] := by
  unfold wantTo
  rw [List.range_succ, List.filter_append, List.map_append]
  congr 1
  by_cases h : k = i
  · simp [h]
  · simp [h]
theorem wantTo_len (T : Tab) (i : Nat) : ∀ k, (wantTo T i k).length = if i < k then k - 1 else k := by
  intro k
  induction k with
  | zero => simp [wantTo]
  | succ k ih =>
    rw [wantTo_succ, List.length_append, ih]
    by_cases h : k = i
    · subst h; simp
    · rw [if_neg h, List.length_singleton]
      by_cases c : i < k
      · rw [if_pos c, if_pos (by omega)]; omega
      · rw [if_neg c, if_neg (by omega)]
theorem ndC_want (T : Tab) (i : Nat) (v : Int) : ndC T i v = (wantTo T i T.length).countP fun a => decide (v < a) := by
  unfold ndC wantTo
  rw [List.countP_map, List.countP_filter]
  refine List.countP_congr fun j _ => ?_
  rw [Bool.and_eq_true, Bool.and_eq_true, ahd_iff, decide_eq_true_eq, Function.comp_apply, decide_eq_true_eq]
  by_cases c : j < i
  · rw [if_pos c]; omega
  · rw [if_neg c]; omega
theorem sorted_count {l : List Int} (hs : l.Pairwise (· ≤ ·)) {f : Nat} (h1 : 1 ≤ f) (h2 : f ≤ l.length) (hl : l.length - f < l.length) (v : Int) : l.countP (fun a => decide (v < a)) < f ↔ l[l.length - f] ≤ v := by
  obtain ⟨u, hu⟩ : ∃ u, u = l[l.length - f] := ⟨_, rfl⟩
  rw [← hu]
  have e : l = l.take (l.length - f) ++ u :: l.drop (l.length - f + 1) := by rw [hu, ← List.drop_eq_getElem_cons hl, List.take_append_drop]
  have hd := hs
  rw [e] at hd
  have hp2 := List.pairwise_append.1 hd
  have hp3 := List.pairwise_cons.1 hp2.2.1
  have ht : ∀ a ∈ l.take (l.length - f), a ≤ u := fun a ha => hp2.2.2 a ha u List.mem_cons_self
  have hdl : (l.drop (l.length - f + 1)).length = f - 1 := by rw [List.length_drop]; omega
  have ec : l.countP (fun a => decide (v < a)) = (l.take (l.length - f)).countP (fun a => decide (v < a)) + ((l.drop (l.length - f + 1)).countP (fun a => decide (v < a)) + if v < u then 1 else 0) := by
    conv => lhs; rw [e]
    rw [List.countP_append, List.countP_cons]
    simp
  constructor
  · intro h
    refine Int.not_lt.1 fun c => ?_
    have h4 : (l.drop (l.length - f + 1)).countP (fun a => decide (v < a)) = (l.drop (l.length - f + 1)).length := List.countP_eq_length.2 fun a ha => by
      have := hp3.1 a ha
      rw [decide_eq_true_eq]; omega
    rw [ec, h4, if_pos c] at h
    omega
  · intro h
    have h3 : (l.take (l.length - f)).countP (fun a => decide (v < a)) = 0 := List.countP_eq_zero.2 fun a ha => by
      have := ht a ha
      rw [decide_eq_true_eq]; omega
    have h4 := List.countP_le_length (p := fun a => decide (v < a)) (l := l.drop (l.length - f + 1))
    rw [ec, h3, if_neg (by omega)]
    omega
/-- what the program answers -/
theorem need_sorted {T : Tab} {i : Nat} {l : List Int} (hs : l.Pairwise (· ≤ ·)) (hp : l.Perm (wantTo T i T.length)) {f : Nat} (h1 : 1 ≤ f) (h2 : f ≤ l.length) (hl : l.length - f < l.length) : IsNeed T i f (max 0 (l[l.length - f] - loT T i)) := by
  have key : ∀ v, NeedP T i f v ↔ l[l.length - f] ≤ v := fun v => by
    rw [← sorted_count hs h1 h2 hl v, hp.countP_eq, ← ndC_want]
    unfold NeedP
    omega
  refine ⟨by omega, (key _).2 (by omega), fun m h3 h4 => ?_⟩
  rw [key]
  omega
theorem need_zero {T : Tab} {i : Nat} {f : Int} (h : ((wantTo T i T.length).length : Int) < f) : IsNeed T i f 0 := by
  refine ⟨Int.le_refl _, ?_, fun m h1 h2 => by omega⟩
  unfold NeedP
  rw [ndC_want]
  have := List.countP_le_length (p := fun a => decide (loT T i + 0 < a)) (l := wantTo T i T.length)
  omega
theorem map_add_ok {l : List Int} (m : Int) (h : l ≠ [] ∧ l.Pairwise (· < ·)) : l.map (· + m) ≠ [] ∧ (l.map (· + m)).Pairwise (· < ·) :=
  ⟨fun e => h.1 (List.map_eq_nil_iff.1 e), List.pairwise_map.2 (h.2.imp fun h => by omega)⟩
theorem need_top {T : Tab} {i : Nat} {f : Int} (hf : 1 ≤ f) {B : Int} (hb : ∀ j, j < T.length → hiT T j < loT T i + B) : NeedP T i f (loT T i + B) := by
  unfold NeedP
  have : ndC T i (loT T i + B) = 0 := List.countP_eq_zero.2 fun j hj h => by
    rw [Bool.and_eq_true, ahd_iff] at h
    have := hb j (List.mem_range.1 hj)
    omega
  rw [this]
  omega

/-- the order of some numbers -/
def ordI (n : Nat) (x : Nat → Int) : List Int := (List.range n).map fun k : Nat => atN n x ((k : Int) + 1)
theorem ordI_len (n : Nat) (x : Nat → Int) : (ordI n x).length = n := by unfold ordI; simp
theorem ordI_get {n : Nat} {x : Nat → Int} {k : Nat} (h : k < (ordI n x).length) : ∃ i : Nat, (ordI n x)[k] = i ∧ i < n ∧ rnk n x i = k + 1 := by
  have hk : k < n := by rw [ordI_len] at h; exact h
  obtain ⟨i, h1, h2, h3⟩ := atN_ex (n := n) x (k := k + 1) (by omega) (by omega)
  refine ⟨i, ?_, h2, h3⟩
  rw [← h1]
  simp [ordI]
theorem ordI_ord (n : Nat) (x : Nat → Int) : IsOrd n x ((ordI n x).map Int.toNat) := by
  refine ord_of_rank (by rw [List.length_map, ordI_len]) (fun k hk => ?_) fun k hk => ?_
  · rw [List.length_map] at hk
    obtain ⟨i, h1, h2, h3⟩ := ordI_get hk
    rw [List.getElem_map, h1, Int.toNat_natCast]
    exact h2
  · rw [List.length_map] at hk
    obtain ⟨i, h1, h2, h3⟩ := ordI_get hk
    rw [List.getElem_map, h1, Int.toNat_natCast]
    exact h3
theorem cast_toNat {l : List Int} (h : ∀ v ∈ l, 0 ≤ v) : (l.map Int.toNat).map (fun k : Nat => (k : Int)) = l := by
  rw [List.map_map]
  have : l.map (id : Int → Int) = l := List.map_id l
  conv => rhs; rw [← this]
  refine List.map_congr_left fun v hv => ?_
  have := h v hv
  simp only [Function.comp_apply, id_eq]
  omega
theorem ordI_nonneg (n : Nat) (x : Nat → Int) : ∀ v ∈ ordI n x, 0 ≤ v := by
  intro v hv
  obtain ⟨k, hk, rfl⟩ := List.getElem_of_mem hv
  obtain ⟨i, h1, -, -⟩ := ordI_get hk
  omega
/-- a list of titles in the order of some numbers is the order of these -/
theorem ordI_of {n : Nat} {x : Nat → Int} {π : List Nat} (h : IsOrd n x π) : π.map (fun k : Nat => (k : Int)) = ordI n x := by
  have e := ord_same h (ordI_ord n x) fun _ _ => rfl
  rw [e, cast_toNat (ordI_nonneg n x)]
theorem ordI_congr {n : Nat} {x y : Nat → Int} (h : ∀ i, i < n → rnk n x i = rnk n y i) : ordI n x = ordI n y := by
  rw [← ordI_of (ordI_ord n x), ← ordI_of (ordI_ord n y), ord_same (ordI_ord n x) (ordI_ord n y) h]
section
variable {T : Tab}
end
end Go.Proofs.YtppncdbhebgcaaaGreatDoor
namespace Go.Proofs.YtppncdbhebgcaaaGreatDoor
open Go.RowKit

end Go.Proofs.YtppncdbhebgcaaaGreatDoor
