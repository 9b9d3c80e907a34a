
/- Charts: how many orders there are: the plain law, without a program. -/
import Derived.Test.YtaoamnhchidjfaaDoorC6a
namespace Go.Proofs.YtaoamnhchidjfaaDoor

/-- a title with a number can come behind what came last -/
def nextP (prev : Option (Nat × Int)) (i : Nat) (v : Int) : Bool :=
  match prev with
  | none => true
  | some (j, m) => ahd j m i v
/-- the greatest number, of ascending ones, that is allowed -/
def bestV (p : Int → Bool) (l : List Int) : Option Int := l.reverse.find? p
/-- all orders of the titles that are left -/
def listO (T : Nat → List Int) : Nat → Option (Nat × Int) → List Nat → List (List Nat)
  | 0, _, _ => [[]]
  | f + 1, prev, rest => rest.flatMap fun i =>
    match bestV (nextP prev i) (T i) with
    | none => []
    | some v => (listO T f (some (i, v)) (rest.erase i)).map (i :: ·)
theorem listO_succ (T : Nat → List Int) (f : Nat) (prev : Option (Nat × Int)) (rest : List Nat) : listO T (f + 1) prev rest = rest.flatMap fun i =>
    match bestV (nextP prev i) (T i) with
    | none => []
    | some v => (listO T f (some (i, v)) (rest.erase i)).map (i :: ·) := rfl
/-- titles come in an order -/
def chainF (x : Nat → Int) : Option (Nat × Int) → List Nat → Prop
  | _, [] => True
  | prev, i :: r => nextP prev i (x i) = true ∧ chainF x (some (i, x i)) r
theorem chainF_congr {x y : Nat → Int} : ∀ (l : List Nat) (prev : Option (Nat × Int)), (∀ i ∈ l, x i = y i) → chainF x prev l → chainF y prev l := by
  intro l
  induction l with
  | nil => intro _ _ _; trivial
  | cons i r ih =>
    intro prev h hc
    have e := h i List.mem_cons_self
    refine ⟨by rw [← e]; exact hc.1, ?_⟩
    rw [← e]
    exact ih _ (fun j hj => h j (List.mem_cons_of_mem _ hj)) hc.2
theorem chainF_up {x : Nat → Int} {i : Nat} {a v : Int} (hv : a ≤ v) : ∀ (l : List Nat), chainF x (some (i, a)) l → chainF x (some (i, v)) l := by
  intro l h
  cases l with
  | nil => trivial
  | cons j r => exact ⟨ahd_mono h.1 hv (Int.le_refl _), h.2⟩
theorem bestV_some {p : Int → Bool} {l : List Int} {v : Int} (h : bestV p l = some v) : v ∈ l ∧ p v = true :=
  ⟨List.mem_reverse.1 (List.mem_of_find?_eq_some h), List.find?_some h⟩
theorem bestV_ge {p : Int → Bool} {l : List Int} (hs : l.Pairwise (· < ·)) {a : Int} (ha : a ∈ l) (hp : p a = true) : ∃ v, bestV p l = some v ∧ a ≤ v := by
  unfold bestV
  have hr : l.reverse.Pairwise (· > ·) := List.pairwise_reverse.2 (hs.imp fun h => h)
  have ha' : a ∈ l.reverse := List.mem_reverse.2 ha
  revert hr ha'
  generalize l.reverse = m
  intro hr ha'
  induction m with
  | nil => cases ha'
  | cons b m ih =>
    rw [List.find?_cons]
    have hr' := List.pairwise_cons.1 hr
    by_cases c : p b = true
    · rw [c]
      refine ⟨b, rfl, ?_⟩
      rcases List.mem_cons.1 ha' with e | e
      · omega
      · have := hr'.1 a e
        omega
    · rw [Bool.eq_false_iff.2 c]
      rcases List.mem_cons.1 ha' with e | e
      · exact absurd (e ▸ hp) c
      · exact ih hr'.2 e
section
variable {T : Nat → List Int}
theorem mem_listO (hT : ∀ i, (T i).Pairwise (· < ·)) : ∀ (f : Nat) (prev : Option (Nat × Int)) (rest : List Nat) (π : List Nat), rest.length = f → rest.Nodup →
    (π ∈ listO T f prev rest ↔ π.Perm rest ∧ ∃ x : Nat → Int, (∀ i ∈ rest, x i ∈ T i) ∧ chainF x prev π) := by
  intro f
  induction f with
  | zero =>
    intro prev rest π hl _
    have : rest = [] := List.length_eq_zero_iff.1 hl
    subst this
    constructor
    · intro h
      have : π = [] := by simpa [listO] using h
      subst this
      exact ⟨List.Perm.refl _, fun _ => 0, (fun i hi => by cases hi), trivial⟩
    · rintro ⟨h, -⟩
      have : π = [] := h.eq_nil
      subst this
      simp [listO]
  | succ f ih =>
    intro prev rest π hl hn
    have hmem : π ∈ listO T (f + 1) prev rest ↔ ∃ i ∈ rest, ∃ v, bestV (nextP prev i) (T i) = some v ∧ ∃ ρ, ρ ∈ listO T f (some (i, v)) (rest.erase i) ∧ π = i :: ρ := by
      rw [listO_succ, List.mem_flatMap]
      constructor
      · rintro ⟨i, hi, h⟩
        cases hb : bestV (nextP prev i) (T i) with
        | none => rw [hb] at h; cases h
        | some v =>
          rw [hb] at h
          obtain ⟨ρ, hρ, rfl⟩ := List.mem_map.1 h
          exact ⟨i, hi, v, hb, ρ, hρ, rfl⟩
      · rintro ⟨i, hi, v, hb, ρ, hρ, rfl⟩
        refine ⟨i, hi, ?_⟩
        rw [hb]
        exact List.mem_map.2 ⟨ρ, hρ, rfl⟩
    rw [hmem]
    constructor
    · rintro ⟨i, hi, v, hb, ρ, hρ, rfl⟩
      obtain ⟨hp, x, hx, hc⟩ := (ih _ _ _ (by rw [List.length_erase_of_mem hi]; omega) (hn.erase i)).1 hρ
      obtain ⟨hv, hnp⟩ := bestV_some hb
      have hni : i ∉ ρ := fun h => by
        have := hp.subset h
        exact (List.Nodup.not_mem_erase hn) this
      refine ⟨(hp.cons i).trans (List.perm_cons_erase hi).symm, pin i v x, fun j hj => ?_, ?_, ?_⟩
      · by_cases e : j = i
        · subst e; rw [pin_self]; exact hv
        · rw [pin_ne v x e]; exact hx j ((List.mem_erase_of_ne e).2 hj)
      · rw [pin_self]; exact hnp
      · rw [pin_self]
        refine chainF_congr ρ _ (fun j hj => ?_) hc
        have hne : j ≠ i := fun e => by rw [e] at hj; exact hni hj
        rw [pin_ne v x hne]
    · rintro ⟨hp, x, hx, hc⟩
      cases π with
      | nil =>
        have := hp.length_eq
        rw [hl] at this
        cases this
      | cons i ρ =>
        have hi : i ∈ rest := hp.subset List.mem_cons_self
        obtain ⟨v, hb, hle⟩ := bestV_ge (hT i) (hx i hi) hc.1
        refine ⟨i, hi, v, hb, ρ, ?_, rfl⟩
        refine (ih _ _ _ (by rw [List.length_erase_of_mem hi]; omega) (hn.erase i)).2 ⟨(List.cons_perm_iff_perm_erase.1 hp).2, x, fun j hj => hx j (List.mem_of_mem_erase hj), chainF_up hle _ hc.2⟩
theorem nodup_listO : ∀ (f : Nat) (prev : Option (Nat × Int)) (rest : List Nat), rest.Nodup → (listO T f prev rest).Nodup := by
  intro f
  induction f with
  | zero => intro _ _ _; simp [listO]
  | succ f ih =>
    intro prev rest hn
    rw [listO_succ, List.nodup_iff_pairwise_ne, List.pairwise_flatMap]
    constructor
    · intro i hi
      cases bestV (nextP prev i) (T i) with
      | none => exact List.Pairwise.nil
      | some v =>
        rw [List.pairwise_map]
        refine (List.nodup_iff_pairwise_ne.1 (ih (some (i, v)) _ (hn.erase i))).imp fun h e => h ?_
        injection e
    · refine (List.nodup_iff_pairwise_ne.1 hn).imp fun {a b} hab π hπ ρ hρ e => ?_
      subst e
      have hd : ∀ c, π ∈ (match bestV (nextP prev c) (T c) with
        | none => ([] : List (List Nat))
        | some v => (listO T f (some (c, v)) (rest.erase c)).map (c :: ·)) → π.head? = some c := by
        intro c hc
        cases hb : bestV (nextP prev c) (T c) with
        | none => rw [hb] at hc; cases hc
        | some v =>
          rw [hb] at hc
          obtain ⟨ρ, -, rfl⟩ := List.mem_map.1 hc
          rfl
      have h1 := hd a hπ
      have h2 := hd b hρ
      rw [h1] at h2
      exact hab (Option.some.inj h2)
end
/-- numbers that the titles can have -/
def TruN (n : Nat) (T : Nat → List Int) (x : Nat → Int) : Prop := ∀ i, i < n → x i ∈ T i
/-- titles are in the order of some numbers -/
def IsOrd (n : Nat) (x : Nat → Int) (π : List Nat) : Prop := π.Perm (List.range n) ∧ chainF x none π
theorem chain_from {x : Nat → Int} : ∀ (l : List Nat) (i : Nat), chainF x (some (i, x i)) l → ∀ j ∈ l, ahd i (x i) j (x j) = true := by
  intro l
  induction l with
  | nil => intro i _ j hj; cases hj
  | cons k r ih =>
    intro i h j hj
    rcases List.mem_cons.1 hj with e | e
    · subst e; exact h.1
    · exact ahd_trans h.1 (ih k h.2 j e)
theorem chain_pairwise {x : Nat → Int} : ∀ (l : List Nat) (prev : Option (Nat × Int)), chainF x prev l → l.Pairwise fun i j => ahd i (x i) j (x j) = true := by
  intro l
  induction l with
  | nil => intro _ _; exact List.Pairwise.nil
  | cons i r ih => intro prev h; exact List.pairwise_cons.2 ⟨chain_from r i h.2, ih _ h.2⟩
theorem pairwise_chain {x : Nat → Int} : ∀ (l : List Nat), (l.Pairwise fun i j => ahd i (x i) j (x j) = true) → ∀ prev, (∀ i, l.head? = some i → nextP prev i (x i) = true) → chainF x prev l := by
  intro l
  induction l with
  | nil => intro _ _ _; trivial
  | cons i r ih =>
    intro h prev hp
    have h' := List.pairwise_cons.1 h
    refine ⟨hp i rfl, ih h'.2 _ fun j hj => ?_⟩
    exact h'.1 j (List.mem_of_mem_head? hj)
theorem pair_rank {x : Nat → Int} {l : List Nat} (h : l.Pairwise fun i j => ahd i (x i) j (x j) = true) {k : Nat} (hk : k < l.length) : l.countP (fun j => ahd j (x j) l[k] (x l[k])) = k := by
  obtain ⟨v, hv⟩ : ∃ v, v = l[k] := ⟨_, rfl⟩
  rw [← hv]
  have e : l = l.take k ++ v :: l.drop (k + 1) := by rw [hv, ← List.drop_eq_getElem_cons hk, List.take_append_drop]
  have hd := h
  rw [e] at hd
  have hp2 := List.pairwise_append.1 hd
  have hp3 := List.pairwise_cons.1 hp2.2.1
  have h1 : (l.take k).countP (fun j => ahd j (x j) v (x v)) = (l.take k).length := List.countP_eq_length.2 fun a ha => hp2.2.2 a ha v List.mem_cons_self
  have h2 : (l.drop (k + 1)).countP (fun j => ahd j (x j) v (x v)) = 0 := List.countP_eq_zero.2 fun a ha => by
    rw [ahd_asymm (hp3.1 a ha)]; decide
  rw [e, List.countP_append, List.countP_cons, h1, h2, if_neg (by rw [ahd_self]; decide), List.length_take]
  omega
theorem IsOrd.rank {n : Nat} {x : Nat → Int} {π : List Nat} (h : IsOrd n x π) {k : Nat} (hk : k < π.length) : rnk n x π[k] = k + 1 := by
  unfold rnk
  rw [← h.1.countP_eq, pair_rank (chain_pairwise π none h.2) hk]
  omega
theorem IsOrd.len {n : Nat} {x : Nat → Int} {π : List Nat} (h : IsOrd n x π) : π.length = n := by rw [h.1.length_eq]; simp
theorem IsOrd.lt {n : Nat} {x : Nat → Int} {π : List Nat} (h : IsOrd n x π) {k : Nat} (hk : k < π.length) : π[k] < n := List.mem_range.1 (h.1.subset (List.getElem_mem hk))
/-- an order whose titles have their places as ranks in some numbers is the order of these -/
theorem ord_of_rank {n : Nat} {x : Nat → Int} {π : List Nat} (hl : π.length = n) (hb : ∀ k (h : k < π.length), π[k] < n) (hr : ∀ k (h : k < π.length), rnk n x π[k] = k + 1) : IsOrd n x π := by
  have hnd : π.Nodup := by
    rw [List.nodup_iff_pairwise_ne, List.pairwise_iff_getElem]
    intro i j hi hj hij e
    have h1 := hr i hi
    have h2 := hr j hj
    rw [e, h2] at h1
    omega
  constructor
  · rw [List.perm_ext_iff_of_nodup hnd List.nodup_range]
    intro a
    constructor
    · intro ha
      obtain ⟨k, hk, rfl⟩ := List.getElem_of_mem ha
      exact List.mem_range.2 (hb k hk)
    · intro ha
      exact all_below hnd hl (fun k hk => by
        obtain ⟨i, hi, rfl⟩ := List.getElem_of_mem hk
        exact hb i hi) (List.mem_range.1 ha)
  · refine pairwise_chain π ?_ none fun _ _ => rfl
    rw [List.pairwise_iff_getElem]
    intro i j hi hj hij
    refine (rnk_lt_iff (hb i hi) (hb j hj)).1 ?_
    rw [hr i hi, hr j hj]
    omega
theorem ord_same {n : Nat} {x y : Nat → Int} {π ρ : List Nat} (h : IsOrd n x π) (h' : IsOrd n y ρ) (hr : ∀ i, i < n → rnk n x i = rnk n y i) : π = ρ := by
  have hl := h.len
  have hl' := h'.len
  refine List.ext_getElem (by omega) fun k hk hk' => ?_
  have h1 := h.rank hk
  have h2 := h'.rank hk'
  rw [hr _ (h.lt hk)] at h1
  exact rnk_inj (h.lt hk) (h'.lt hk') (by rw [h1, h2])
/-- some numbers have an order -/
theorem ord_ex (n : Nat) (x : Nat → Int) : ∃ π, IsOrd n x π := by
  have h : ∀ k, ∃ i, k < n → (i < n ∧ rnk n x i = k + 1) := fun k => by
    by_cases c : k < n
    · obtain ⟨i, h1, h2⟩ := rnk_at (n := n) x (k := k + 1) (by omega) (by omega)
      exact ⟨i, fun _ => ⟨h1, h2⟩⟩
    · exact ⟨0, fun h => absurd h c⟩
  obtain ⟨g, hg⟩ := Classical.axiomOfChoice h
  refine ⟨(List.range n).map g, ord_of_rank (by simp) (fun k hk => ?_) fun k hk => ?_⟩
  · simp only [List.length_map, List.length_range] at hk
    simpa using (hg k hk).1
  · simp only [List.length_map, List.length_range] at hk
    simpa using (hg k hk).2
/-- all orders of n titles -/
def allO (n : Nat) (T : Nat → List Int) : List (List Nat) := listO T n none (List.range n)
section
variable {n : Nat} {T U : Nat → List Int}
theorem mem_allO (hT : ∀ i, (T i).Pairwise (· < ·)) {π : List Nat} : π ∈ allO n T ↔ ∃ x, TruN n T x ∧ IsOrd n x π := by
  unfold allO
  rw [mem_listO hT n none _ π (by simp) List.nodup_range]
  constructor
  · rintro ⟨hp, x, hx, hc⟩
    exact ⟨x, fun i hi => hx i (List.mem_range.2 hi), hp, hc⟩
  · rintro ⟨x, hx, hp, hc⟩
    exact ⟨hp, x, fun i hi => hx i (List.mem_range.1 hi), hc⟩
theorem nodup_allO : (allO n T).Nodup := nodup_listO _ _ _ List.nodup_range
/-- a list of all orders, each once, is as long -/
theorem len_allO (hT : ∀ i, (T i).Pairwise (· < ·)) {L : List (List Nat)} (hn : L.Nodup) (hm : ∀ π, π ∈ L ↔ ∃ x, TruN n T x ∧ IsOrd n x π) : L.length = (allO n T).length :=
  Nat.le_antisymm (nodup_len _ _ hn fun π h => (mem_allO hT).2 ((hm π).1 h)) (nodup_len _ _ nodup_allO fun π h => (hm π).2 ((mem_allO hT).1 h))
theorem allO_mono (hT : ∀ i, (T i).Pairwise (· < ·)) (hU : ∀ i, (U i).Pairwise (· < ·)) (h : ∀ i, i < n → ∀ v ∈ T i, v ∈ U i) : (allO n T).length ≤ (allO n U).length :=
  nodup_len _ _ nodup_allO fun π hπ => by
    obtain ⟨x, hx, ho⟩ := (mem_allO hT).1 hπ
    exact (mem_allO hU).2 ⟨x, fun i hi => h i hi _ (hx i hi), ho⟩
theorem allO_pos (hT : ∀ i, (T i).Pairwise (· < ·)) (h : ∀ i, i < n → T i ≠ []) : 1 ≤ (allO n T).length := by
  have : ∀ i, ∃ v, i < n → v ∈ T i := fun i => by
    by_cases c : i < n
    · obtain ⟨v, hv⟩ := List.exists_mem_of_ne_nil _ (h i c)
      exact ⟨v, fun _ => hv⟩
    · exact ⟨0, fun h => absurd h c⟩
  obtain ⟨x, hx⟩ := Classical.axiomOfChoice this
  obtain ⟨π, hπ⟩ := ord_ex n x
  exact List.length_pos_of_mem ((mem_allO hT).2 ⟨x, hx, hπ⟩)
end
end Go.Proofs.YtaoamnhchidjfaaDoor
