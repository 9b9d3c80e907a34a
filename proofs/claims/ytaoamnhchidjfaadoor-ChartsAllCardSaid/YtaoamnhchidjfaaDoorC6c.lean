
/- Charts: the answers, out of the numbers of all titles: what the reference reckons over all truths, and what the program reckons: plain law. -/
import Derived.Test.YtaoamnhchidjfaaDoorC6b
import Derived.Test.YtaoamnhchidjfaaDoorXE
namespace Go.Proofs.YtaoamnhchidjfaaDoor

abbrev Tab := List (List Int)
def rowT (T : Tab) (i : Nat) : List Int := T.getD i []
def loT (T : Tab) (i : Nat) : Int := (rowT T i).headD 0
def hiT (T : Tab) (i : Nat) : Int := (rowT T i).getLastD 0
def TabOK (T : Tab) : Prop := ∀ l ∈ T, l ≠ [] ∧ l.Pairwise (· < ·)
def vT (t : List Int) (i : Nat) : Int := t.getD i 0
/-- all truths that begin with some numbers -/
def prL : Tab → List Int → Tab
  | [], f => [f]
  | r :: T, f => r.flatMap fun v => prL T (f ++ [v])
def prTo (r : List Int) (T : Tab) (f : List Int) (k : Nat) : Tab := (r.take k).flatMap fun v => prL T (f ++ [v])
theorem prTo_succ (r : List Int) (T : Tab) (f : List Int) {k : Nat} (h : k < r.length) : prTo r T f (k + 1) = prTo r T f k ++ prL T (f ++ [r[k]]) := by
  unfold prTo
  rw [List.take_succ_eq_append_getElem h, List.flatMap_append]
  simp
theorem prTo_all (r : List Int) (T : Tab) (f : List Int) : prTo r T f r.length = prL (r :: T) f := by
  unfold prTo
  rw [List.take_length]
  rfl
def waysT : Tab → Nat
  | [] => 1
  | r :: T => r.length * waysT T
theorem prL_ways : ∀ (T : Tab) (f : List Int), (prL T f).length = waysT T
  | [], _ => rfl
  | r :: T, f => by
    have key : ∀ r' : List Int, (r'.flatMap fun v => prL T (f ++ [v])).length = r'.length * waysT T := by
      intro r'
      induction r' with
      | nil => simp
      | cons a r' ih => rw [List.flatMap_cons, List.length_append, ih, prL_ways T, List.length_cons, Nat.succ_mul]; omega
    exact key r
theorem prTo_len (r : List Int) (T : Tab) (f : List Int) (k : Nat) (h : k ≤ r.length) : (prTo r T f k).length = k * waysT T := by
  induction k with
  | zero => simp [prTo]
  | succ k ih => rw [prTo_succ r T f (by omega), List.length_append, ih (by omega), prL_ways, Nat.succ_mul]
theorem waysT_pos {T : Tab} (h : ∀ l ∈ T, l ≠ []) : 1 ≤ waysT T := by
  induction T with
  | nil => exact Nat.le_refl _
  | cons r T ih =>
    have h1 := ih fun l hl => h l (List.mem_cons_of_mem _ hl)
    have h2 : 0 < r.length := List.length_pos_iff.2 (h r List.mem_cons_self)
    exact Nat.mul_pos h2 h1
theorem rowT_cons (r : List Int) (T : Tab) (i : Nat) : rowT (r :: T) (i + 1) = rowT T i := by simp [rowT]
theorem mem_prL : ∀ (T : Tab) (f t : List Int), t ∈ prL T f ↔ ∃ u : List Int, t = f ++ u ∧ u.length = T.length ∧ ∀ i, i < T.length → vT u i ∈ rowT T i
  | [], f, t => by
    constructor
    · intro h
      have : t = f := by simpa [prL] using h
      exact ⟨[], by simp [this], rfl, fun i hi => absurd hi (by simp)⟩
    · rintro ⟨u, rfl, hl, -⟩
      have : u = [] := List.length_eq_zero_iff.1 hl
      subst this
      simp [prL]
  | r :: T, f, t => by
    unfold prL
    rw [List.mem_flatMap]
    constructor
    · rintro ⟨v, hv, h⟩
      obtain ⟨u, rfl, hl, hu⟩ := (mem_prL T _ _).1 h
      refine ⟨v :: u, by simp, by simp [hl], fun i hi => ?_⟩
      cases i with
      | zero => simpa [vT, rowT] using hv
      | succ i =>
        rw [rowT_cons]
        have := hu i (by simpa using hi)
        simpa [vT] using this
    · rintro ⟨u, rfl, hl, hu⟩
      cases u with
      | nil => simp at hl
      | cons v u =>
        refine ⟨v, by simpa [vT, rowT] using hu 0 (by simp), (mem_prL T _ _).2 ⟨u, by simp, by simpa using hl, fun i hi => ?_⟩⟩
        have := hu (i + 1) (by simpa using hi)
        rw [rowT_cons] at this
        simpa [vT] using this
theorem mem_prT {T : Tab} {t : List Int} : t ∈ prL T [] ↔ t.length = T.length ∧ TruN T.length (rowT T) (vT t) := by
  rw [mem_prL]
  constructor
  · rintro ⟨u, rfl, h1, h2⟩
    exact ⟨by simpa using h1, fun i hi => by simpa using h2 i hi⟩
  · rintro ⟨h1, h2⟩
    exact ⟨t, by simp, h1, h2⟩
theorem vT_map {n : Nat} (x : Nat → Int) {i : Nat} (h : i < n) : vT ((List.range n).map x) i = x i := by
  unfold vT
  rw [List.getD_eq_getElem?_getD, List.getElem?_map, List.getElem?_range h]
  rfl
theorem rnk_congr {n : Nat} {x y : Nat → Int} (h : ∀ i, i < n → x i = y i) {i : Nat} (hi : i < n) : rnk n x i = rnk n y i := by
  unfold rnk
  congr 1
  refine List.countP_congr fun j hj => ?_
  rw [h j (List.mem_range.1 hj), h i hi]
/-- numbers that the titles can have, as a truth -/
theorem tru_list {T : Tab} {x : Nat → Int} (h : TruN T.length (rowT T) x) : (List.range T.length).map x ∈ prL T [] := by
  refine mem_prT.2 ⟨by simp, fun i hi => ?_⟩
  rw [vT_map x hi]
  exact h i hi
theorem rowT_get {T : Tab} {i : Nat} (h : i < T.length) : rowT T i = T[i] := by
  unfold rowT
  rw [List.getD_eq_getElem?_getD, List.getElem?_eq_getElem h]
  rfl
section
variable {T : Tab}
theorem TabOK.row (hT : TabOK T) (i : Nat) : (rowT T i).Pairwise (· < ·) := by
  by_cases h : i < T.length
  · rw [rowT_get h]; exact (hT _ (List.getElem_mem h)).2
  · unfold rowT
    rw [List.getD_eq_getElem?_getD, List.getElem?_eq_none (by omega)]
    exact List.Pairwise.nil
theorem TabOK.ne (hT : TabOK T) {i : Nat} (h : i < T.length) : rowT T i ≠ [] := by
  rw [rowT_get h]; exact (hT _ (List.getElem_mem h)).1
theorem head_mem {l : List Int} (h : l ≠ []) : l.headD 0 ∈ l := by
  cases l with
  | nil => exact absurd rfl h
  | cons a l => exact List.mem_cons_self
theorem last_mem {l : List Int} (h : l ≠ []) : l.getLastD 0 ∈ l := by
  cases l with
  | nil => exact absurd rfl h
  | cons a l => have e := (List.getLast_eq_getLastD (l := a :: l) (a := 0) (by simp)); rw [← e]; exact List.getLast_mem _
theorem head_le {l : List Int} (hs : l.Pairwise (· < ·)) {v : Int} (hv : v ∈ l) : l.headD 0 ≤ v := by
  cases l with
  | nil => cases hv
  | cons a l =>
    show a ≤ v
    rcases List.mem_cons.1 hv with e | e
    · omega
    · have := (List.pairwise_cons.1 hs).1 v e
      omega
theorem le_last {l : List Int} (hs : l.Pairwise (· < ·)) {v : Int} (hv : v ∈ l) : v ≤ l.getLastD 0 := by
  revert v
  induction l with
  | nil => intro v hv; cases hv
  | cons a l ih =>
    intro v hv
    cases l with
    | nil =>
      have : v = a := by simpa using hv
      subst this
      exact Int.le_refl _
    | cons b l =>
      have hs' := List.pairwise_cons.1 hs
      have e : (a :: b :: l).getLastD 0 = (b :: l).getLastD 0 := by simp
      rw [e]
      rcases List.mem_cons.1 hv with c | c
      · subst c
        have h1 := hs'.1 b List.mem_cons_self
        have h2 := ih hs'.2 (v := b) List.mem_cons_self
        omega
      · exact ih hs'.2 c
theorem lo_mem (hT : TabOK T) {i : Nat} (h : i < T.length) : loT T i ∈ rowT T i := head_mem (hT.ne h)
theorem hi_mem (hT : TabOK T) {i : Nat} (h : i < T.length) : hiT T i ∈ rowT T i := last_mem (hT.ne h)
theorem lo_le (hT : TabOK T) {i : Nat} {v : Int} (hv : v ∈ rowT T i) : loT T i ≤ v := head_le (hT.row i) hv
theorem le_hi (hT : TabOK T) {i : Nat} {v : Int} (hv : v ∈ rowT T i) : v ≤ hiT T i := le_last (hT.row i) hv
theorem lo_hi (hT : TabOK T) {i : Nat} (h : i < T.length) : loT T i ≤ hiT T i := lo_le hT (hi_mem hT h)
theorem tru_lo (hT : TabOK T) : TruN T.length (rowT T) (loT T) := fun _ hi => lo_mem hT hi
theorem tru_hi (hT : TabOK T) : TruN T.length (rowT T) (hiT T) := fun _ hi => hi_mem hT hi
theorem tru_pin {x : Nat → Int} (hx : TruN T.length (rowT T) x) {i : Nat} {v : Int} (hv : v ∈ rowT T i) : TruN T.length (rowT T) (pin i v x) := by
  intro j hj
  by_cases e : j = i
  · subst e; rw [pin_self]; exact hv
  · rw [pin_ne v x e]; exact hx j hj
end
/-- the least and the greatest of all -/
theorem fold_min {α : Type} {f : α → Int} {m : Int} : ∀ (l : List α) (a : Int), m ≤ a → (∀ t ∈ l, m ≤ f t) → (a = m ∨ ∃ t ∈ l, f t = m) → l.foldl (fun s t => min s (f t)) a = m := by
  intro l
  induction l with
  | nil =>
    intro a _ _ h
    rcases h with h | ⟨t, ht, -⟩
    · exact h
    · cases ht
  | cons b l ih =>
    intro a h1 h2 h3
    rw [List.foldl_cons]
    have hb := h2 b List.mem_cons_self
    refine ih _ (by omega) (fun t ht => h2 t (List.mem_cons_of_mem _ ht)) ?_
    rcases h3 with h | ⟨t, ht, he⟩
    · left; omega
    · rcases List.mem_cons.1 ht with e | e
      · subst e; left; omega
      · exact Or.inr ⟨t, e, he⟩
theorem fold_max {α : Type} {f : α → Int} {m : Int} : ∀ (l : List α) (a : Int), a ≤ m → (∀ t ∈ l, f t ≤ m) → (a = m ∨ ∃ t ∈ l, f t = m) → l.foldl (fun s t => max s (f t)) a = m := by
  intro l
  induction l with
  | nil =>
    intro a _ _ h
    rcases h with h | ⟨t, ht, -⟩
    · exact h
    · cases ht
  | cons b l ih =>
    intro a h1 h2 h3
    rw [List.foldl_cons]
    have hb := h2 b List.mem_cons_self
    refine ih _ (by omega) (fun t ht => h2 t (List.mem_cons_of_mem _ ht)) ?_
    rcases h3 with h | ⟨t, ht, he⟩
    · left; omega
    · rcases List.mem_cons.1 ht with e | e
      · subst e; left; omega
      · exact Or.inr ⟨t, e, he⟩
/-- the least rank of a title, and the greatest one -/
def rkLo (T : Tab) (i : Nat) : Nat := rnkLo T.length (loT T) (hiT T) i
def rkHi (T : Tab) (i : Nat) : Nat := rnkHi T.length (loT T) (hiT T) i
/-- as the reference finds them: over the first truths -/
def rkRef (T : Tab) (i : Nat) (k : Nat) : Int × Int := ((prL T []).take k).foldl (fun s t => (min s.1 (rnk T.length (vT t) i : Int), max s.2 (rnk T.length (vT t) i : Int))) ((T.length : Int), 1)
theorem foldl_pair {α : Type} (f : α → Int) : ∀ (l : List α) (a b : Int), l.foldl (fun s t => (min s.1 (f t), max s.2 (f t))) (a, b) = (l.foldl (fun s t => min s (f t)) a, l.foldl (fun s t => max s (f t)) b) := by
  intro l
  induction l with
  | nil => intro a b; rfl
  | cons c l ih => intro a b; rw [List.foldl_cons, List.foldl_cons, List.foldl_cons]; exact ih _ _
section
variable {T : Tab}
theorem rk_bounds (hT : TabOK T) {i : Nat} (hi : i < T.length) {x : Nat → Int} (hx : TruN T.length (rowT T) x) : rkLo T i ≤ rnk T.length x i ∧ rnk T.length x i ≤ rkHi T i :=
  ⟨rnkLo_le (fun j hj => lo_le hT (hx j hj)) (fun j hj => le_hi hT (hx j hj)) hi, le_rnkHi (fun j hj => lo_le hT (hx j hj)) (fun j hj => le_hi hT (hx j hj)) hi⟩
theorem rkLo_ex (hT : TabOK T) {i : Nat} (hi : i < T.length) : ∃ x, TruN T.length (rowT T) x ∧ rnk T.length x i = rkLo T i := ⟨_, tru_pin (tru_lo hT) (hi_mem hT hi), rnkLo_at i⟩
theorem rkHi_ex (hT : TabOK T) {i : Nat} (hi : i < T.length) : ∃ x, TruN T.length (rowT T) x ∧ rnk T.length x i = rkHi T i := ⟨_, tru_pin (tru_hi hT) (lo_mem hT hi), rnkHi_at i⟩
theorem rk_le (hT : TabOK T) {i : Nat} (hi : i < T.length) : 1 ≤ rkLo T i ∧ rkLo T i ≤ rkHi T i ∧ rkHi T i ≤ T.length := by
  obtain ⟨x, hx, h⟩ := rkHi_ex hT hi
  have h1 := rk_bounds hT hi hx
  have h2 := rnk_le (x := x) hi
  refine ⟨by unfold rkLo rnkLo; omega, by omega, by omega⟩
theorem rk_ref (hT : TabOK T) {i : Nat} (hi : i < T.length) : rkRef T i (prL T []).length = ((rkLo T i : Int), (rkHi T i : Int)) := by
  have hb := rk_le hT hi
  unfold rkRef
  rw [List.take_length, foldl_pair (fun t => (rnk T.length (vT t) i : Int))]
  have hmem : ∀ t ∈ prL T [], rkLo T i ≤ rnk T.length (vT t) i ∧ rnk T.length (vT t) i ≤ rkHi T i := fun t ht => rk_bounds hT hi (mem_prT.1 ht).2
  obtain ⟨x, hx, h1⟩ := rkLo_ex hT hi
  obtain ⟨y, hy, h2⟩ := rkHi_ex hT hi
  refine Prod.ext (fold_min _ _ (by omega) (fun t ht => by have := hmem t ht; omega) (Or.inr ⟨_, tru_list hx, ?_⟩)) (fold_max _ _ (by omega) (fun t ht => by have := hmem t ht; omega) (Or.inr ⟨_, tru_list hy, ?_⟩))
  · rw [rnk_congr (fun j hj => vT_map x hj) hi, h1]
  · rw [rnk_congr (fun j hj => vT_map y hj) hi, h2]
end
/-- the title with a rank -/
def atN (n : Nat) (x : Nat → Int) (k : Int) : Int :=
  match (List.range n).find? fun i => decide ((rnk n x i : Int) = k) with
  | some i => i
  | none => -1
theorem atN_of {n : Nat} {x : Nat → Int} {k i : Nat} (hi : i < n) (h : rnk n x i = k) : atN n x k = i := by
  unfold atN
  cases hf : (List.range n).find? fun i => decide ((rnk n x i : Int) = k) with
  | none =>
    have := List.find?_eq_none.1 hf i (List.mem_range.2 hi)
    simp [h] at this
  | some j =>
    have h1 := List.find?_some hf
    have h2 := List.mem_range.1 (List.mem_of_find?_eq_some hf)
    simp only [decide_eq_true_eq] at h1
    rw [rnk_inj (x := x) h2 hi (by omega)]
theorem atN_ex {n : Nat} (x : Nat → Int) {k : Nat} (h1 : 1 ≤ k) (h2 : k ≤ n) : ∃ i : Nat, atN n x k = i ∧ i < n ∧ rnk n x i = k := by
  obtain ⟨i, hi, h⟩ := rnk_at (n := n) x h1 h2
  exact ⟨i, atN_of hi h, hi, h⟩
/-- the number with a rank -/
def cutN (n : Nat) (x : Nat → Int) (k : Int) : Int := x (atN n x k).toNat
theorem cut_kth {n : Nat} (x : Nat → Int) {k : Nat} (h1 : 1 ≤ k) (h2 : k ≤ n) : Kth n x k (cutN n x k) := by
  obtain ⟨i, he, hi, h⟩ := atN_ex (n := n) x h1 h2
  unfold cutN
  rw [he, Int.toNat_natCast, ← h]
  exact rnk_kth hi
theorem kth_congr {n : Nat} {x y : Nat → Int} (h : ∀ i, i < n → x i = y i) {k : Nat} {v : Int} (hk : Kth n x k v) : Kth n y k v := by
  unfold Kth at hk ⊢
  have e1 : (List.range n).countP (fun j => decide (v < y j)) = (List.range n).countP (fun j => decide (v < x j)) := List.countP_congr fun j hj => by rw [h j (List.mem_range.1 hj)]
  have e2 : (List.range n).countP (fun j => decide (v ≤ y j)) = (List.range n).countP (fun j => decide (v ≤ x j)) := List.countP_congr fun j hj => by rw [h j (List.mem_range.1 hj)]
  rw [e1, e2]
  exact hk
/-- as the reference finds it: over the first truths -/
def cutRef (T : Tab) (k : Int) (m : Nat) : Int × Int :=
  match (prL T []).take m with
  | [] => (0, 0)
  | t :: l => (t :: l).foldl (fun s t => (min s.1 (cutN T.length (vT t) k), max s.2 (cutN T.length (vT t) k))) (cutN T.length (vT t) k, cutN T.length (vT t) k)
section
variable {T : Tab}
theorem cut_bounds (hT : TabOK T) {k : Nat} (h1 : 1 ≤ k) (h2 : k ≤ T.length) {x : Nat → Int} (hx : TruN T.length (rowT T) x) : cutN T.length (loT T) k ≤ cutN T.length x k ∧ cutN T.length x k ≤ cutN T.length (hiT T) k :=
  ⟨Kth.mono (cut_kth _ h1 h2) (cut_kth _ h1 h2) fun j hj => lo_le hT (hx j hj), Kth.mono (cut_kth _ h1 h2) (cut_kth _ h1 h2) fun j hj => le_hi hT (hx j hj)⟩
theorem prL_ne (hT : TabOK T) : prL T [] ≠ [] := by
  intro h
  have h1 := tru_list (tru_lo hT)
  rw [h] at h1
  cases h1
theorem cut_ref (hT : TabOK T) {k : Nat} (h1 : 1 ≤ k) (h2 : k ≤ T.length) : cutRef T k (prL T []).length = (cutN T.length (loT T) k, cutN T.length (hiT T) k) := by
  unfold cutRef
  rw [List.take_length]
  have hmem : ∀ t ∈ prL T [], cutN T.length (loT T) k ≤ cutN T.length (vT t) k ∧ cutN T.length (vT t) k ≤ cutN T.length (hiT T) k := fun t ht => cut_bounds hT h1 h2 (mem_prT.1 ht).2
  have hlo := tru_list (tru_lo hT)
  have hhi := tru_list (tru_hi hT)
  have e : ∀ x : Nat → Int, cutN T.length (vT ((List.range T.length).map x)) k = cutN T.length x k := fun x => Kth.uniq (kth_congr (fun i hi => vT_map x hi) (cut_kth _ h1 h2)) (cut_kth _ h1 h2)
  have hne := prL_ne hT
  revert hmem hlo hhi hne
  generalize prL T [] = L
  intro hmem hlo hhi hne
  cases L with
  | nil => exact absurd rfl hne
  | cons t l =>
    have ht := hmem t List.mem_cons_self
    simp only
    rw [foldl_pair (fun t => cutN T.length (vT t) k)]
    exact Prod.ext (fold_min _ _ ht.1 (fun u hu => (hmem u hu).1) (Or.inr ⟨_, hlo, e _⟩)) (fold_max _ _ ht.2 (fun u hu => (hmem u hu).2) (Or.inr ⟨_, hhi, e _⟩))
/-- as the program finds it: among sorted numbers -/
theorem cut_sorted {n : Nat} {x : Nat → Int} {l : List Int} (hs : l.Pairwise (· ≤ ·)) (hp : l.Perm ((List.range n).map x)) {k : Nat} (h1 : 1 ≤ k) (h2 : k ≤ n) (hl : n - k < l.length) : l[n - k] = cutN n x k :=
  Kth.uniq (sorted_kth hs hp h1 h2 hl) (cut_kth x h1 h2)
end
/-- the titles that surely are among the first ones, or may be -/
def topF (T : Tab) (f : Int) (i : Nat) : Bool := decide ((rkHi T i : Int) ≤ f)
def mayF (T : Tab) (f : Int) (i : Nat) : Bool := decide ((rkLo T i : Int) ≤ f)
def openF (T : Tab) (f : Int) (i : Nat) : Bool := mayF T f i && decide (f < (rkHi T i : Int))
def topL (T : Tab) (f : Int) : List Int := pickTo (topF T f) T.length
def mayL (T : Tab) (f : Int) : List Int := pickTo (mayF T f) T.length
def openN (T : Tab) (f : Int) : Nat := (List.range T.length).countP (openF T f)
theorem pick_len (f : Nat → Bool) (k : Nat) : (pickTo f k).length = (List.range k).countP f := by
  unfold pickTo
  rw [List.length_map, List.countP_eq_length_filter]
theorem pick_congr {f g : Nat → Bool} {k : Nat} (h : ∀ i, i < k → f i = g i) : pickTo f k = pickTo g k := by
  unfold pickTo
  rw [List.filter_congr fun i hi => h i (List.mem_range.1 hi)]
section
variable {T : Tab}
/-- the reference's test of May -/
theorem may_ref (hT : TabOK T) (f : Int) : pickTo (fun i => topF T f i || mayF T f i) T.length = mayL T f :=
  pick_congr fun i hi => by
    have := rk_le hT hi
    unfold topF mayF
    rw [Bool.eq_iff_iff, Bool.or_eq_true, decide_eq_true_eq, decide_eq_true_eq]
    omega
theorem count_diff {α : Type} {p q r : α → Bool} : ∀ (l : List α), (∀ x ∈ l, q x = true → p x = true) → (∀ x ∈ l, r x = (p x && !q x)) → l.countP p = l.countP q + l.countP r := by
  intro l
  induction l with
  | nil => intro _ _; rfl
  | cons a l ih =>
    intro h1 h2
    have e := ih (fun x hx => h1 x (List.mem_cons_of_mem _ hx)) fun x hx => h2 x (List.mem_cons_of_mem _ hx)
    have a1 := h1 a List.mem_cons_self
    have a2 := h2 a List.mem_cons_self
    rw [List.countP_cons, List.countP_cons, List.countP_cons, e, a2]
    cases hp : p a <;> cases hq : q a <;> simp [hp, hq] at a1 ⊢ <;> omega
theorem open_ref (hT : TabOK T) (f : Int) : ((mayL T f).length : Int) - (topL T f).length = (openN T f : Nat) := by
  unfold mayL topL openN
  rw [pick_len, pick_len]
  have := count_diff (p := mayF T f) (q := topF T f) (r := openF T f) (List.range T.length) (fun i hi h => by
    have := rk_le hT (List.mem_range.1 hi)
    unfold topF at h
    unfold mayF
    rw [decide_eq_true_eq] at h ⊢
    omega) (fun i hi => by
    unfold openF topF
    congr 1
    rw [Bool.eq_iff_iff, Bool.not_eq_true', decide_eq_true_eq, decide_eq_false_iff_not]
    omega)
  omega
end
/-- which title should be found out -/
def pinT (T : Tab) (i : Nat) (v : Int) : Tab := T.set i [v]
def mostT (T : Tab) (f : Int) (i : Nat) (k : Nat) : Int := ((rowT T i).take k).foldl (fun m v => max m (openN (pinT T i v) f : Int)) 0
def nxStep (T : Tab) (f : Int) (o : Int × Int) (i : Nat) : Int × Int :=
  if (rowT T i).length < 2 then o else if o.1 < 0 ∨ mostT T f i (rowT T i).length < o.2 then ((i : Int), mostT T f i (rowT T i).length) else o
def nxTo (T : Tab) (f : Int) (k : Nat) : Int × Int := (List.range k).foldl (nxStep T f) (-1, 0)
theorem nxTo_succ (T : Tab) (f : Int) (k : Nat) : nxTo T f (k + 1) = nxStep T f (nxTo T f k) k := by
  unfold nxTo
  rw [List.range_succ, List.foldl_append]
  rfl
theorem mostT_succ (T : Tab) (f : Int) (i : Nat) {k : Nat} (h : k < (rowT T i).length) : mostT T f i (k + 1) = max (mostT T f i k) (openN (pinT T i (rowT T i)[k]) f : Int) := by
  unfold mostT
  rw [List.take_succ_eq_append_getElem h, List.foldl_append]
  rfl
theorem pin_ok {T : Tab} (hT : TabOK T) (i : Nat) (v : Int) : TabOK (pinT T i v) := by
  intro l hl
  rcases List.mem_or_eq_of_mem_set hl with h | h
  · exact hT l h
  · subst h; exact ⟨by simp, by simp⟩
theorem openN_le (T : Tab) (f : Int) : openN T f ≤ T.length := by
  have := List.countP_le_length (p := openF T f) (l := List.range T.length)
  rw [List.length_range] at this
  exact this
theorem mostT_bd (T : Tab) (f : Int) (i : Nat) : ∀ k, k ≤ (rowT T i).length → 0 ≤ mostT T f i k ∧ mostT T f i k ≤ T.length := by
  intro k
  induction k with
  | zero => intro _; unfold mostT; simp
  | succ k ih =>
    intro hk
    rw [mostT_succ T f i (by omega)]
    have := ih (by omega)
    have h1 := openN_le (pinT T i (rowT T i)[k]) f
    have h2 : (pinT T i (rowT T i)[k]).length = T.length := by unfold pinT; simp
    omega
/-- how many titles would still be before a title that has a number -/
def ndC (T : Tab) (i : Nat) (v : Int) : Nat := (List.range T.length).countP fun j => decide (j ≠ i) && ahd j (hiT T j) i v
def NeedP (T : Tab) (i : Nat) (f : Int) (v : Int) : Prop := (1 + ndC T i v : Int) ≤ f
def IsNeed (T : Tab) (i : Nat) (f : Int) (a : Int) : Prop := 0 ≤ a ∧ NeedP T i f (loT T i + a) ∧ ∀ m, 0 ≤ m → m < a → ¬NeedP T i f (loT T i + m)
theorem IsNeed.uniq {T : Tab} {i : Nat} {f a b : Int} (h : IsNeed T i f a) (h' : IsNeed T i f b) : a = b := by
  refine Classical.byContradiction fun hne => ?_
  rcases Int.lt_or_gt_of_ne hne with c | c
  · exact h'.2.2 a h.1 c h.2.1
  · exact h.2.2 b h'.1 c h'.2.1
theorem ndC_mono {T : Tab} {i : Nat} {v v' : Int} (h : v ≤ v') : ndC T i v' ≤ ndC T i v :=
  countP_le_of _ fun j _ hj => by
    rw [Bool.and_eq_true] at hj ⊢
    exact ⟨hj.1, ahd_mono hj.2 (Int.le_refl _) h⟩
theorem NeedP.mono {T : Tab} {i : Nat} {f v v' : Int} (h : NeedP T i f v) (hv : v ≤ v') : NeedP T i f v' := by
  have := ndC_mono (T := T) (i := i) hv
  unfold NeedP at h ⊢
  omega
theorem rkHi_need (T : Tab) (i : Nat) : rkHi T i = 1 + ndC T i (loT T i) := rfl
end Go.Proofs.YtaoamnhchidjfaaDoor
