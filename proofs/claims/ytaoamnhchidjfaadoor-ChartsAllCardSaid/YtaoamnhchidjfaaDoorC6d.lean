
/- Charts: how much more a title needs, and all orders, as the reference and the program find them: plain law. -/
import Derived.Test.YtaoamnhchidjfaaDoorC6c
namespace Go.Proofs.YtaoamnhchidjfaaDoor

/-- with which number a title comes before each other one for sure -/
def wantTo (T : Tab) (i : Nat) (k : Nat) : List Int := ((List.range k).filter fun j => decide (j ≠ i)).map fun j => hiT T j + if j < i then 1 else 0
theorem wantTo_succ (T : Tab) (i k : Nat) : wantTo T i (k + 1) = wantTo T i k ++ if k = i then [] else [hiT T k + if k < i then 1 else 0] := by
  unfold wantTo
  rw [List.range_succ, List.filter_append, List.map_append]
  congr 1
  by_cases h : k = i
  · simp [h]
  · simp [h]
theorem wantTo_len (T : Tab) (i : Nat) : ∀ k, (wantTo T i k).length = if i < k then k - 1 else k := by
  intro k
  induction k with
  | zero => simp [wantTo]
  | succ k ih =>
    rw [wantTo_succ, List.length_append, ih]
    by_cases h : k = i
    · subst h; simp
    · rw [if_neg h, List.length_singleton]
      by_cases c : i < k
      · rw [if_pos c, if_pos (by omega)]; omega
      · rw [if_neg c, if_neg (by omega)]
theorem ndC_want (T : Tab) (i : Nat) (v : Int) : ndC T i v = (wantTo T i T.length).countP fun a => decide (v < a) := by
  unfold ndC wantTo
  rw [List.countP_map, List.countP_filter]
  refine List.countP_congr fun j _ => ?_
  rw [Bool.and_eq_true, Bool.and_eq_true, ahd_iff, decide_eq_true_eq, Function.comp_apply, decide_eq_true_eq]
  by_cases c : j < i
  · rw [if_pos c]; omega
  · rw [if_neg c]; omega
theorem sorted_count {l : List Int} (hs : l.Pairwise (· ≤ ·)) {f : Nat} (h1 : 1 ≤ f) (h2 : f ≤ l.length) (hl : l.length - f < l.length) (v : Int) : l.countP (fun a => decide (v < a)) < f ↔ l[l.length - f] ≤ v := by
  obtain ⟨u, hu⟩ : ∃ u, u = l[l.length - f] := ⟨_, rfl⟩
  rw [← hu]
  have e : l = l.take (l.length - f) ++ u :: l.drop (l.length - f + 1) := by rw [hu, ← List.drop_eq_getElem_cons hl, List.take_append_drop]
  have hd := hs
  rw [e] at hd
  have hp2 := List.pairwise_append.1 hd
  have hp3 := List.pairwise_cons.1 hp2.2.1
  have ht : ∀ a ∈ l.take (l.length - f), a ≤ u := fun a ha => hp2.2.2 a ha u List.mem_cons_self
  have hdl : (l.drop (l.length - f + 1)).length = f - 1 := by rw [List.length_drop]; omega
  have ec : l.countP (fun a => decide (v < a)) = (l.take (l.length - f)).countP (fun a => decide (v < a)) + ((l.drop (l.length - f + 1)).countP (fun a => decide (v < a)) + if v < u then 1 else 0) := by
    conv => lhs; rw [e]
    rw [List.countP_append, List.countP_cons]
    simp
  constructor
  · intro h
    refine Int.not_lt.1 fun c => ?_
    have h4 : (l.drop (l.length - f + 1)).countP (fun a => decide (v < a)) = (l.drop (l.length - f + 1)).length := List.countP_eq_length.2 fun a ha => by
      have := hp3.1 a ha
      rw [decide_eq_true_eq]; omega
    rw [ec, h4, if_pos c] at h
    omega
  · intro h
    have h3 : (l.take (l.length - f)).countP (fun a => decide (v < a)) = 0 := List.countP_eq_zero.2 fun a ha => by
      have := ht a ha
      rw [decide_eq_true_eq]; omega
    have h4 := List.countP_le_length (p := fun a => decide (v < a)) (l := l.drop (l.length - f + 1))
    rw [ec, h3, if_neg (by omega)]
    omega
/-- what the program answers -/
theorem need_sorted {T : Tab} {i : Nat} {l : List Int} (hs : l.Pairwise (· ≤ ·)) (hp : l.Perm (wantTo T i T.length)) {f : Nat} (h1 : 1 ≤ f) (h2 : f ≤ l.length) (hl : l.length - f < l.length) : IsNeed T i f (max 0 (l[l.length - f] - loT T i)) := by
  have key : ∀ v, NeedP T i f v ↔ l[l.length - f] ≤ v := fun v => by
    rw [← sorted_count hs h1 h2 hl v, hp.countP_eq, ← ndC_want]
    unfold NeedP
    omega
  refine ⟨by omega, (key _).2 (by omega), fun m h3 h4 => ?_⟩
  rw [key]
  omega
theorem need_zero {T : Tab} {i : Nat} {f : Int} (h : ((wantTo T i T.length).length : Int) < f) : IsNeed T i f 0 := by
  refine ⟨Int.le_refl _, ?_, fun m h1 h2 => by omega⟩
  unfold NeedP
  rw [ndC_want]
  have := List.countP_le_length (p := fun a => decide (loT T i + 0 < a)) (l := wantTo T i T.length)
  omega
/-- the numbers of titles, those of one greater -/
def withT (T : Tab) (i : Nat) (m : Int) : Tab := T.set i ((rowT T i).map (· + m))
theorem withT_len (T : Tab) (i : Nat) (m : Int) : (withT T i m).length = T.length := by unfold withT; simp
theorem rowT_with {T : Tab} {i : Nat} (hi : i < T.length) (m : Int) (j : Nat) : rowT (withT T i m) j = if j = i then (rowT T i).map (· + m) else rowT T j := by
  unfold withT
  by_cases e : j = i
  · subst e
    rw [if_pos rfl]
    unfold rowT
    rw [List.getD_eq_getElem?_getD, List.getElem?_set_self hi]
    rfl
  · rw [if_neg e]
    unfold rowT
    rw [List.getD_eq_getElem?_getD, List.getElem?_set_ne (fun h => e h.symm), ← List.getD_eq_getElem?_getD]
theorem map_add_ok {l : List Int} (m : Int) (h : l ≠ [] ∧ l.Pairwise (· < ·)) : l.map (· + m) ≠ [] ∧ (l.map (· + m)).Pairwise (· < ·) :=
  ⟨fun e => h.1 (List.map_eq_nil_iff.1 e), List.pairwise_map.2 (h.2.imp fun h => by omega)⟩
theorem with_ok {T : Tab} (hT : TabOK T) {i : Nat} (hi : i < T.length) (m : Int) : TabOK (withT T i m) := by
  intro l hl
  rcases List.mem_or_eq_of_mem_set hl with h | h
  · exact hT l h
  · subst h
    rw [rowT_get hi]
    exact map_add_ok m (hT _ (List.getElem_mem hi))
theorem head_add {l : List Int} (m : Int) (h : l ≠ []) : (l.map (· + m)).headD 0 = l.headD 0 + m := by
  cases l with
  | nil => exact absurd rfl h
  | cons a l => rfl
theorem last_add {l : List Int} (m : Int) (h : l ≠ []) : (l.map (· + m)).getLastD 0 = l.getLastD 0 + m := by
  rw [List.getLastD_eq_getLast?, List.getLastD_eq_getLast?, List.getLast?_map, List.getLast?_eq_some_getLast h]
  rfl
theorem rk_with {T : Tab} (hT : TabOK T) {i : Nat} (hi : i < T.length) (m : Int) : rkHi (withT T i m) i = 1 + ndC T i (loT T i + m) := by
  unfold rkHi rnkHi ndC
  rw [withT_len]
  congr 1
  refine List.countP_congr fun j hj => ?_
  by_cases e : j = i
  · simp [e]
  · have e1 : hiT (withT T i m) j = hiT T j := by unfold hiT; rw [rowT_with hi, if_neg e]
    have e2 : loT (withT T i m) i = loT T i + m := by unfold loT; rw [rowT_with hi, if_pos rfl, head_add m (hT.ne hi)]
    rw [e1, e2]
theorem need_top {T : Tab} {i : Nat} {f : Int} (hf : 1 ≤ f) {B : Int} (hb : ∀ j, j < T.length → hiT T j < loT T i + B) : NeedP T i f (loT T i + B) := by
  unfold NeedP
  have : ndC T i (loT T i + B) = 0 := List.countP_eq_zero.2 fun j hj h => by
    rw [Bool.and_eq_true, ahd_iff] at h
    have := hb j (List.mem_range.1 hj)
    omega
  rw [this]
  omega

/-- the order of some numbers -/
def ordI (n : Nat) (x : Nat → Int) : List Int := (List.range n).map fun k : Nat => atN n x ((k : Int) + 1)
theorem ordI_len (n : Nat) (x : Nat → Int) : (ordI n x).length = n := by unfold ordI; simp
theorem ordI_get {n : Nat} {x : Nat → Int} {k : Nat} (h : k < (ordI n x).length) : ∃ i : Nat, (ordI n x)[k] = i ∧ i < n ∧ rnk n x i = k + 1 := by
  have hk : k < n := by rw [ordI_len] at h; exact h
  obtain ⟨i, h1, h2, h3⟩ := atN_ex (n := n) x (k := k + 1) (by omega) (by omega)
  refine ⟨i, ?_, h2, h3⟩
  rw [← h1]
  simp [ordI]
theorem ordI_ord (n : Nat) (x : Nat → Int) : IsOrd n x ((ordI n x).map Int.toNat) := by
  refine ord_of_rank (by rw [List.length_map, ordI_len]) (fun k hk => ?_) fun k hk => ?_
  · rw [List.length_map] at hk
    obtain ⟨i, h1, h2, h3⟩ := ordI_get hk
    rw [List.getElem_map, h1, Int.toNat_natCast]
    exact h2
  · rw [List.length_map] at hk
    obtain ⟨i, h1, h2, h3⟩ := ordI_get hk
    rw [List.getElem_map, h1, Int.toNat_natCast]
    exact h3
theorem cast_toNat {l : List Int} (h : ∀ v ∈ l, 0 ≤ v) : (l.map Int.toNat).map (fun k : Nat => (k : Int)) = l := by
  rw [List.map_map]
  have : l.map (id : Int → Int) = l := List.map_id l
  conv => rhs; rw [← this]
  refine List.map_congr_left fun v hv => ?_
  have := h v hv
  simp only [Function.comp_apply, id_eq]
  omega
theorem ordI_nonneg (n : Nat) (x : Nat → Int) : ∀ v ∈ ordI n x, 0 ≤ v := by
  intro v hv
  obtain ⟨k, hk, rfl⟩ := List.getElem_of_mem hv
  obtain ⟨i, h1, -, -⟩ := ordI_get hk
  omega
/-- a list of titles in the order of some numbers is the order of these -/
theorem ordI_of {n : Nat} {x : Nat → Int} {π : List Nat} (h : IsOrd n x π) : π.map (fun k : Nat => (k : Int)) = ordI n x := by
  have e := ord_same h (ordI_ord n x) fun _ _ => rfl
  rw [e, cast_toNat (ordI_nonneg n x)]
theorem ordI_congr {n : Nat} {x y : Nat → Int} (h : ∀ i, i < n → rnk n x i = rnk n y i) : ordI n x = ordI n y := by
  rw [← ordI_of (ordI_ord n x), ← ordI_of (ordI_ord n y), ord_same (ordI_ord n x) (ordI_ord n y) h]
/-- the orders of the first truths, each once -/
def ordStep (n : Nat) (o : Tab) (t : List Int) : Tab := if ordI n (vT t) ∈ o then o else o ++ [ordI n (vT t)]
def ordsTo (T : Tab) (k : Nat) : Tab := ((prL T []).take k).foldl (ordStep T.length) []
theorem ordsTo_succ (T : Tab) {k : Nat} (h : k < (prL T []).length) : ordsTo T (k + 1) = ordStep T.length (ordsTo T k) (prL T [])[k] := by
  unfold ordsTo
  rw [List.take_succ_eq_append_getElem h, List.foldl_append]
  rfl
theorem ords_fold (n : Nat) : ∀ (l : Tab) (o : Tab), o.Nodup → (l.foldl (ordStep n) o).Nodup ∧ ∀ π, π ∈ l.foldl (ordStep n) o ↔ π ∈ o ∨ ∃ t ∈ l, ordI n (vT t) = π := by
  intro l
  induction l with
  | nil => intro o ho; exact ⟨ho, fun π => ⟨Or.inl, fun h => h.elim id fun ⟨t, ht, _⟩ => by cases ht⟩⟩
  | cons a l ih =>
    intro o ho
    rw [List.foldl_cons]
    have hs : (ordStep n o a).Nodup ∧ ∀ π, π ∈ ordStep n o a ↔ π ∈ o ∨ ordI n (vT a) = π := by
      unfold ordStep
      by_cases c : ordI n (vT a) ∈ o
      · rw [if_pos c]
        exact ⟨ho, fun π => ⟨Or.inl, fun h => h.elim id fun e => e ▸ c⟩⟩
      · rw [if_neg c]
        refine ⟨List.nodup_append.2 ⟨ho, by simp, fun b hb d hd e => ?_⟩, fun π => ?_⟩
        · have : d = ordI n (vT a) := by simpa using hd
          rw [this] at e
          exact c (e ▸ hb)
        · rw [List.mem_append, List.mem_singleton]
          exact ⟨fun h => h.imp id fun h => h.symm, fun h => h.imp id fun h => h.symm⟩
    obtain ⟨h1, h2⟩ := ih _ hs.1
    refine ⟨h1, fun π => ?_⟩
    rw [h2, hs.2]
    constructor
    · rintro ((h | h) | ⟨t, ht, h⟩)
      · exact Or.inl h
      · exact Or.inr ⟨a, List.mem_cons_self, h⟩
      · exact Or.inr ⟨t, List.mem_cons_of_mem _ ht, h⟩
    · rintro (h | ⟨t, ht, h⟩)
      · exact Or.inl (Or.inl h)
      · rcases List.mem_cons.1 ht with e | e
        · subst e; exact Or.inl (Or.inr h)
        · exact Or.inr ⟨t, e, h⟩
section
variable {T : Tab}
theorem mem_ords {π : List Int} : π ∈ ordsTo T (prL T []).length ↔ ∃ t ∈ prL T [], ordI T.length (vT t) = π := by
  unfold ordsTo
  rw [List.take_length, (ords_fold _ _ _ List.nodup_nil).2]
  exact ⟨fun h => h.elim (fun h => by cases h) id, Or.inr⟩
theorem ords_len (hT : TabOK T) : (ordsTo T (prL T []).length).length = (allO T.length (rowT T)).length := by
  have hn : (ordsTo T (prL T []).length).Nodup := by unfold ordsTo; exact (ords_fold _ _ _ List.nodup_nil).1
  have hnn : ∀ π ∈ ordsTo T (prL T []).length, ∀ v ∈ π, 0 ≤ v := fun π hπ => by
    obtain ⟨t, -, rfl⟩ := mem_ords.1 hπ
    exact ordI_nonneg _ _
  rw [← List.length_map (f := fun π : List Int => π.map Int.toNat)]
  refine len_allO hT.row ?_ fun π => ?_
  · rw [List.nodup_iff_pairwise_ne, List.pairwise_map]
    refine List.Pairwise.imp_of_mem ?_ (List.nodup_iff_pairwise_ne.1 hn)
    intro a b ha hb hne e
    refine hne ?_
    rw [← cast_toNat (hnn a ha), ← cast_toNat (hnn b hb), e]
  · rw [List.mem_map]
    constructor
    · rintro ⟨σ, hσ, rfl⟩
      obtain ⟨t, ht, rfl⟩ := mem_ords.1 hσ
      exact ⟨vT t, (mem_prT.1 ht).2, ordI_ord _ _⟩
    · rintro ⟨x, hx, hπ⟩
      refine ⟨_, mem_ords.2 ⟨_, tru_list hx, rfl⟩, ?_⟩
      have e : ordI T.length (vT ((List.range T.length).map x)) = ordI T.length x := ordI_congr fun i hi => rnk_congr (fun j hj => vT_map x hj) hi
      rw [e]
      exact ord_same (ordI_ord _ _) hπ fun _ _ => rfl
/-- an order of a truth is one of the reference's -/
theorem ords_of {x : Nat → Int} (hx : TruN T.length (rowT T) x) : ordI T.length x ∈ ordsTo T (prL T []).length :=
  mem_ords.2 ⟨_, tru_list hx, ordI_congr fun _ hi => rnk_congr (fun _ hj => vT_map x hj) hi⟩
/-- there is one order just if each rank is one number -/
theorem one_iff (hT : TabOK T) : (allO T.length (rowT T)).length = 1 ↔ ∀ i, i < T.length → rkLo T i = rkHi T i := by
  constructor
  · intro h i hi
    obtain ⟨π, hπ⟩ := List.length_eq_one_iff.1 h
    have hm : ∀ x, TruN T.length (rowT T) x → (ordI T.length x).map Int.toNat = π := fun x hx => by
      have : (ordI T.length x).map Int.toNat ∈ allO T.length (rowT T) := (mem_allO hT.row).2 ⟨x, hx, ordI_ord _ _⟩
      rw [hπ] at this
      exact List.mem_singleton.1 this
    obtain ⟨x, hx, h1⟩ := rkLo_ex hT hi
    obtain ⟨y, hy, h2⟩ := rkHi_ex hT hi
    have ox : IsOrd T.length x π := hm x hx ▸ ordI_ord _ _
    have oy : IsOrd T.length y π := hm y hy ▸ ordI_ord _ _
    have hmem : i ∈ π := ox.1.symm.subset (List.mem_range.2 hi)
    obtain ⟨k, hk, rfl⟩ := List.getElem_of_mem hmem
    rw [← h1, ← h2, ox.rank hk, oy.rank hk]
  · intro h
    have hpos := allO_pos hT.row (n := T.length) fun i hi => hT.ne hi
    have hle := nodup_len (allO T.length (rowT T)) [(ordI T.length (loT T)).map Int.toNat] nodup_allO fun π hπ => by
      obtain ⟨x, hx, ho⟩ := (mem_allO hT.row).1 hπ
      rw [List.mem_singleton]
      refine ord_same ho (ordI_ord _ _) fun i hi => ?_
      have b1 := rk_bounds hT hi hx
      have b2 := rk_bounds hT hi (tru_lo hT)
      have := h i hi
      omega
    rw [List.length_singleton] at hle
    omega
end
end Go.Proofs.YtaoamnhchidjfaaDoor
