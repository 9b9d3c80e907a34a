
/- Charts: one title has more plays, or each one has: plain law. Charts: one more reading: plain law. Charts: a reading is added to a meter in memory of its own: plain law of blocks. Charts: the extra plays of a chart in memory of its own are written. -/
import Derived.Test.YtaoamnhchidjfaaGreatDoorCA
import Derived.Test.YtaoamnhchidjfaaGreatDoorCC
import Derived.Test.YtaoamnhchidjfaaGreatDoorCF
namespace Go.Proofs.YtaoamnhchidjfaaGreatDoor
open Go.RowKit

theorem wf_sm {n : Int} (h : 0 ≤ n) (h2 : n ≤ 1000000) : (Lit.int .i64 n).wf = true := by
  simp [Lit.wf, IntKind.min, IntKind.max, IntKind.signed, IntKind.bits]
  omega
theorem errC_two {C : Ch} (h : ValidC C) : errC C true = 0 ∨ errC C true = 3 := by
  cases hn : someN C C.meters.length
  · exact Or.inl (errC_ok h hn)
  · exact Or.inr (errC_none h hn)
/-- a chart, one title of which has other extra plays -/
def exS (C : Ch) (t : Nat) (v : Int) : Ch := { C with extra := C.extra.set t v }
theorem exS_valid {C : Ch} (h : ValidC C) {t : Nat} {v : Int} (hv : 0 ≤ v ∧ v ≤ 999) : ValidC (exS C t v) := by
  refine ⟨h.nm, ?_, h.f0, h.ft, h.t5, fun x hx => ?_, h.mt⟩
  · show (C.extra.set t v).length = _
    rw [List.length_set]
    exact h.nx
  · rcases List.mem_or_eq_of_mem_set hx with h1 | h1
    · exact h.ex x h1
    · rw [h1]; exact hv
theorem exS_sm {C : Ch} (h : ChSm C) (t : Nat) (v : Int) : ChSm (exS C t v) := by
  refine ⟨h.nm, ?_, h.mt⟩
  show (C.extra.set t v).length ≤ _
  rw [List.length_set]
  exact h.nx
theorem exS_err {C : Ch} (h : ValidC C) {t : Nat} {v : Int} (hv : 0 ≤ v ∧ v ≤ 999) (is : Bool) : errC (exS C t v) is = errC C is := by
  unfold errC
  rw [if_pos ((okC_iff _).2 (exS_valid h hv)), if_pos ((okC_iff _).2 h)]
  rfl
theorem exC_exS {C : Ch} {t : Nat} (h : t < C.extra.length) (v : Int) (j : Nat) : exC (exS C t v) j = if j = t then v else exC C j := by
  unfold exC exS
  by_cases e : j = t
  · subst e
    rw [if_pos rfl, List.getD_eq_getElem?_getD, List.getElem?_set_self h]
    rfl
  · rw [if_neg e, List.getD_eq_getElem?_getD, List.getElem?_set_ne (fun h => e h.symm), ← List.getD_eq_getElem?_getD]
theorem map_add_add (l : List Int) {a b c : Int} (h : a + b = c) : (l.map (· + a)).map (· + b) = l.map (· + c) := by
  rw [List.map_map]
  refine List.map_congr_left fun x _ => ?_
  show x + a + b = x + c
  omega
theorem exS_tab {C : Ch} (h : C.extra.length = C.meters.length) {t : Nat} (ht : t < C.meters.length) (v : Int) : tabC (exS C t v) = withT (tabC C) t (v - exC C t) := by
  refine List.ext_getElem (by rw [tabC_len, withT_len, tabC_len]; rfl) fun i h1 h2 => ?_
  have hi : i < C.meters.length := by rw [tabC_len] at h1; exact h1
  rw [← rowT_get h1, ← rowT_get h2, tabC_row (C := exS C t v) hi, rowT_with (by rw [tabC_len]; exact ht), tabC_row ht, tabC_row hi]
  unfold rowC
  rw [exC_exS (by omega)]
  by_cases e : i = t
  · subst e
    rw [if_pos rfl, if_pos rfl, map_add_add _ (show exC C i + (v - exC C i) = v by omega)]
    rfl
  · rw [if_neg e, if_neg e]
    rfl
section
variable {T : Tab}
theorem lo_with (hT : TabOK T) {i : Nat} (hi : i < T.length) (m : Int) (j : Nat) : loT (withT T i m) j = if j = i then loT T i + m else loT T j := by
  unfold loT
  rw [rowT_with hi]
  by_cases e : j = i
  · rw [if_pos e, if_pos e, head_add m (hT.ne hi)]
  · rw [if_neg e, if_neg e]
theorem hi_with (hT : TabOK T) {i : Nat} (hi : i < T.length) (m : Int) (j : Nat) : hiT (withT T i m) j = if j = i then hiT T i + m else hiT T j := by
  unfold hiT
  rw [rowT_with hi]
  by_cases e : j = i
  · rw [if_pos e, if_pos e, last_add m (hT.ne hi)]
  · rw [if_neg e, if_neg e]
theorem rkLo_with (hT : TabOK T) {i : Nat} (hi : i < T.length) {m : Int} (hm : 0 ≤ m) : rkLo (withT T i m) i ≤ rkLo T i := by
  unfold rkLo rnkLo
  rw [withT_len]
  refine Nat.add_le_add_left (countP_le_of _ fun j hj h => ?_) 1
  rw [Bool.and_eq_true] at h ⊢
  refine ⟨h.1, ?_⟩
  have hne : j ≠ i := by simpa using h.1
  have h2 := h.2
  rw [lo_with hT hi, if_neg hne, hi_with hT hi, if_pos rfl] at h2
  exact ahd_mono h2 (Int.le_refl _) (by omega)
theorem rkHi_with (hT : TabOK T) {i : Nat} (hi : i < T.length) {m : Int} (hm : 0 ≤ m) : rkHi (withT T i m) i ≤ rkHi T i := by
  rw [rk_with hT hi, rkHi_need]
  have := ndC_mono (T := T) (i := i) (show loT T i ≤ loT T i + m by omega)
  omega
theorem top_with (hT : TabOK T) {i : Nat} (hi : i < T.length) (m f : Int) : inL (topL (withT T i m) f) (i : Int) = true ↔ NeedP T i f (loT T i + m) := by
  rw [show topL (withT T i m) f = pickTo (topF (withT T i m) f) (withT T i m).length from rfl, inL_pick (by rw [withT_len]; exact hi)]
  unfold topF NeedP
  rw [decide_eq_true_eq, rk_with hT hi]
  omega
theorem need_ex {i : Nat} {f : Int} : ∀ B : Nat, NeedP T i f (loT T i + B) → ∃ a, IsNeed T i f a ∧ a ≤ B := by
  intro B
  induction B with
  | zero => exact fun h => ⟨0, ⟨Int.le_refl _, h, fun m h1 h2 => by omega⟩, Int.le_refl _⟩
  | succ B ih =>
    intro h
    by_cases c : NeedP T i f (loT T i + B)
    · obtain ⟨a, h1, h2⟩ := ih c
      exact ⟨a, h1, by omega⟩
    · exact ⟨((B + 1 : Nat) : Int), ⟨by omega, h, fun m h1 h2 h3 => c (h3.mono (by omega))⟩, Int.le_refl _⟩
theorem need_bd (hG : TabG T) {i : Nat} (hi : i < T.length) {f : Int} (hf : 1 ≤ f) : IsNeed T i f (needV T i f) ∧ needV T i f ≤ 2500 := by
  obtain ⟨a, h1, h2⟩ := need_ex (T := T) (i := i) (f := f) 2500 (need_top hf fun j hj => by
    have := hi_bd hG hj
    have := lo_bd hG hi
    omega)
  rw [needV_eq h1]
  exact ⟨h1, h2⟩

/-- all numbers are greater by so much -/
def shT (T : Tab) (m : Int) : Tab := T.map fun l => l.map (· + m)
theorem shT_len (T : Tab) (m : Int) : (shT T m).length = T.length := by unfold shT; simp
theorem rowT_sh (T : Tab) (m : Int) (i : Nat) : rowT (shT T m) i = (rowT T i).map (· + m) := by
  unfold rowT shT
  rw [List.getD_eq_getElem?_getD, List.getD_eq_getElem?_getD, List.getElem?_map]
  cases T[i]? <;> rfl
theorem sh_ok (hT : TabOK T) (m : Int) : TabOK (shT T m) := by
  intro l hl
  obtain ⟨r, hr, rfl⟩ := List.mem_map.1 hl
  exact map_add_ok m (hT r hr)
theorem lo_sh (hT : TabOK T) (m : Int) {i : Nat} (hi : i < T.length) : loT (shT T m) i = loT T i + m := by
  unfold loT
  rw [rowT_sh, head_add m (hT.ne hi)]
theorem hi_sh (hT : TabOK T) (m : Int) {i : Nat} (hi : i < T.length) : hiT (shT T m) i = hiT T i + m := by
  unfold hiT
  rw [rowT_sh, last_add m (hT.ne hi)]
theorem ahd_sh (j i : Nat) (a b m : Int) : ahd j (a + m) i (b + m) = ahd j a i b := by
  rw [Bool.eq_iff_iff, ahd_iff, ahd_iff]
  omega
theorem rkLo_sh (hT : TabOK T) (m : Int) {i : Nat} (hi : i < T.length) : rkLo (shT T m) i = rkLo T i := by
  unfold rkLo rnkLo
  rw [shT_len]
  congr 1
  refine List.countP_congr fun j hj => ?_
  rw [lo_sh hT m (List.mem_range.1 hj), hi_sh hT m hi, ahd_sh]
theorem rkHi_sh (hT : TabOK T) (m : Int) {i : Nat} (hi : i < T.length) : rkHi (shT T m) i = rkHi T i := by
  unfold rkHi rnkHi
  rw [shT_len]
  congr 1
  refine List.countP_congr fun j hj => ?_
  rw [hi_sh hT m (List.mem_range.1 hj), lo_sh hT m hi, ahd_sh]
theorem kth_sh {n : Nat} {x y : Nat → Int} {m : Int} (h : ∀ i, i < n → y i = x i + m) {k : Nat} {v : Int} (hk : Kth n x k v) : Kth n y k (v + m) := by
  unfold Kth at hk ⊢
  have e1 : (List.range n).countP (fun j => decide (v + m < y j)) = (List.range n).countP (fun j => decide (v < x j)) := List.countP_congr fun j hj => by
    rw [h j (List.mem_range.1 hj), decide_eq_true_eq, decide_eq_true_eq]; omega
  have e2 : (List.range n).countP (fun j => decide (v + m ≤ y j)) = (List.range n).countP (fun j => decide (v ≤ x j)) := List.countP_congr fun j hj => by
    rw [h j (List.mem_range.1 hj), decide_eq_true_eq, decide_eq_true_eq]; omega
  rw [e1, e2]
  exact hk
theorem cutLo_sh (hT : TabOK T) (m : Int) {k : Nat} (h1 : 1 ≤ k) (h2 : k ≤ T.length) : cutN (shT T m).length (loT (shT T m)) k = cutN T.length (loT T) k + m := by
  rw [shT_len]
  exact Kth.uniq (cut_kth _ h1 h2) (kth_sh (fun i hi => lo_sh hT m hi) (cut_kth _ h1 h2))
theorem cutHi_sh (hT : TabOK T) (m : Int) {k : Nat} (h1 : 1 ≤ k) (h2 : k ≤ T.length) : cutN (shT T m).length (hiT (shT T m)) k = cutN T.length (hiT T) k + m := by
  rw [shT_len]
  exact Kth.uniq (cut_kth _ h1 h2) (kth_sh (fun i hi => hi_sh hT m hi) (cut_kth _ h1 h2))
theorem topL_sh (hT : TabOK T) (m f : Int) : topL (shT T m) f = topL T f := by
  unfold topL
  rw [shT_len]
  exact pick_congr fun i hi => by unfold topF; rw [rkHi_sh hT m hi]
theorem mayL_sh (hT : TabOK T) (m f : Int) : mayL (shT T m) f = mayL T f := by
  unfold mayL
  rw [shT_len]
  exact pick_congr fun i hi => by unfold mayF; rw [rkLo_sh hT m hi]
theorem openN_sh (hT : TabOK T) (m f : Int) : openN (shT T m) f = openN T f := by
  unfold openN
  rw [shT_len]
  exact List.countP_congr fun i hi => by unfold openF mayF; rw [rkHi_sh hT m (List.mem_range.1 hi), rkLo_sh hT m (List.mem_range.1 hi)]
theorem pin_sh (T : Tab) (m : Int) (i : Nat) (v : Int) : pinT (shT T m) i (v + m) = shT (pinT T i v) m := by
  unfold pinT shT
  rw [List.map_set]
  rfl
theorem mostT_sh (hT : TabOK T) (m f : Int) (i k : Nat) : mostT (shT T m) f i k = mostT T f i k := by
  unfold mostT
  rw [rowT_sh, ← List.map_take, List.foldl_map]
  congr 1
  funext a v
  rw [pin_sh, openN_sh (pin_ok hT i v)]
theorem nxTo_sh (hT : TabOK T) (m f : Int) (k : Nat) : nxTo (shT T m) f k = nxTo T f k := by
  unfold nxTo
  congr 1
  funext o i
  unfold nxStep
  rw [mostT_sh hT, rowT_sh, List.length_map]
theorem ndC_sh (hT : TabOK T) (m : Int) (i : Nat) (v : Int) : ndC (shT T m) i (v + m) = ndC T i v := by
  unfold ndC
  rw [shT_len]
  refine List.countP_congr fun j hj => ?_
  rw [hi_sh hT m (List.mem_range.1 hj), ahd_sh]
theorem isNeed_sh (hT : TabOK T) (m : Int) {i : Nat} (hi : i < T.length) (f a : Int) : IsNeed (shT T m) i f a ↔ IsNeed T i f a := by
  have key : ∀ b, NeedP (shT T m) i f (loT (shT T m) i + b) ↔ NeedP T i f (loT T i + b) := fun b => by
    unfold NeedP
    rw [lo_sh hT m hi, show loT T i + m + b = loT T i + b + m by omega, ndC_sh hT]
  unfold IsNeed
  rw [key]
  refine and_congr Iff.rfl (and_congr Iff.rfl ⟨fun h b h1 h2 h3 => h b h1 h2 ((key b).2 h3), fun h b h1 h2 h3 => h b h1 h2 ((key b).1 h3)⟩)
theorem needV_sh (hT : TabOK T) (m : Int) {i : Nat} (hi : i < T.length) (f : Int) : needV (shT T m) i f = needV T i f := by
  by_cases h : ∃ a, IsNeed T i f a
  · obtain ⟨a, ha⟩ := h
    rw [needV_eq ha, needV_eq ((isNeed_sh hT m hi f a).2 ha)]
  · unfold needV
    rw [dif_neg h, dif_neg fun ⟨a, ha⟩ => h ⟨a, (isNeed_sh hT m hi f a).1 ha⟩]
theorem nextP_sh (prev : Option (Nat × Int)) (i : Nat) (v m : Int) : nextP (prev.map fun p => (p.1, p.2 + m)) i (v + m) = nextP prev i v := by
  cases prev with
  | none => rfl
  | some p => exact ahd_sh _ _ _ _ _
theorem chainF_sh {x y : Nat → Int} {m : Int} (h : ∀ i, y i = x i + m) : ∀ (l : List Nat) (prev : Option (Nat × Int)), chainF x prev l → chainF y (prev.map fun p => (p.1, p.2 + m)) l := by
  intro l
  induction l with
  | nil => intro _ _; trivial
  | cons i r ih =>
    intro prev hc
    refine ⟨?_, ?_⟩
    · rw [h i, nextP_sh]; exact hc.1
    · have := ih _ hc.2
      rw [h i]
      exact this
theorem allO_sh (hT : TabOK T) (m : Int) : (allO T.length (rowT (shT T m))).length = (allO T.length (rowT T)).length := by
  refine (len_allO (sh_ok hT m).row nodup_allO fun π => ?_).symm
  rw [mem_allO hT.row]
  constructor
  · rintro ⟨x, hx, hp, hc⟩
    refine ⟨fun i => x i + m, fun i hi => ?_, hp, chainF_sh (fun _ => rfl) _ none hc⟩
    rw [rowT_sh]
    exact List.mem_map.2 ⟨x i, hx i hi, rfl⟩
  · rintro ⟨x, hx, hp, hc⟩
    refine ⟨fun i => x i + -m, fun i hi => ?_, hp, chainF_sh (m := -m) (fun _ => rfl) _ none hc⟩
    have := hx i hi
    rw [rowT_sh] at this
    obtain ⟨v, hv, he⟩ := List.mem_map.1 this
    have e : x i + -m = v := by omega
    show x i + -m ∈ rowT T i
    rw [e]
    exact hv
end
/-- a chart, all titles of which have so many plays more -/
def shC (C : Ch) (m : Int) : Ch := { C with extra := C.extra.map (· + m) }
theorem shC_sm {C : Ch} (h : ChSm C) (m : Int) : ChSm (shC C m) := by
  refine ⟨h.nm, ?_, h.mt⟩
  show (C.extra.map (· + m)).length ≤ _
  rw [List.length_map]
  exact h.nx
theorem shC_err {C : Ch} (h : ValidC C) {m : Int} (h' : ValidC (shC C m)) (is : Bool) : errC (shC C m) is = errC C is := by
  unfold errC
  rw [if_pos ((okC_iff _).2 h'), if_pos ((okC_iff _).2 h)]
  rfl
theorem shC_tab {C : Ch} (h : C.extra.length = C.meters.length) (m : Int) : tabC (shC C m) = shT (tabC C) m := by
  refine List.ext_getElem (by rw [tabC_len, shT_len, tabC_len]; rfl) fun i h1 h2 => ?_
  have hi : i < C.meters.length := by rw [tabC_len] at h1; exact h1
  have hx : exC (shC C m) i = exC C i + m := by
    rw [exC_get (show i < C.extra.length by omega), exC_get (show i < (shC C m).extra.length by unfold shC; simp; omega)]
    simp [shC]
  rw [← rowT_get h1, ← rowT_get h2, tabC_row (C := shC C m) hi, rowT_sh, tabC_row hi]
  unfold rowC
  rw [hx, map_add_add _ rfl]
  rfl
end Go.Proofs.YtaoamnhchidjfaaGreatDoor
namespace Go.Proofs.YtaoamnhchidjfaaGreatDoor
open Go.RowKit

/-- a table, each number of which is one of another table -/
structure SubT (U T : Tab) : Prop where
  len : U.length = T.length
  row : ∀ i, i < T.length → ∀ v ∈ rowT U i, v ∈ rowT T i
section
variable {U T : Tab}
theorem SubT.tru (h : SubT U T) {x : Nat → Int} (hx : TruN U.length (rowT U) x) : TruN T.length (rowT T) x := fun i hi => h.row i hi _ (hx i (by rw [h.len]; exact hi))
theorem rk_sub (hU : TabOK U) (hT : TabOK T) (h : SubT U T) {i : Nat} (hi : i < T.length) : rkLo T i ≤ rkLo U i ∧ rkHi U i ≤ rkHi T i := by
  have hi' : i < U.length := by rw [h.len]; exact hi
  obtain ⟨x, hx, ex⟩ := rkLo_ex hU hi'
  obtain ⟨y, hy, ey⟩ := rkHi_ex hU hi'
  rw [← ex, ← ey, h.len]
  exact ⟨(rk_bounds hT hi (h.tru hx)).1, (rk_bounds hT hi (h.tru hy)).2⟩
theorem cut_sub (hU : TabOK U) (hT : TabOK T) (h : SubT U T) {k : Nat} (h1 : 1 ≤ k) (h2 : k ≤ T.length) :
    cutN T.length (loT T) k ≤ cutN U.length (loT U) k ∧ cutN U.length (loT U) k ≤ cutN U.length (hiT U) k ∧ cutN U.length (hiT U) k ≤ cutN T.length (hiT T) k := by
  have h3 := (cut_bounds hU h1 (by rw [h.len]; exact h2) (tru_hi hU)).1
  have h4 := cut_bounds hT h1 h2 (h.tru (tru_lo hU))
  have h5 := cut_bounds hT h1 h2 (h.tru (tru_hi hU))
  rw [h.len] at h3 ⊢
  exact ⟨h4.1, h3, h5.2⟩
theorem top_sub (hU : TabOK U) (hT : TabOK T) (h : SubT U T) (f : Int) : ∀ x ∈ topL T f, x ∈ topL U f := by
  intro x hx
  obtain ⟨i, hi, ht, rfl⟩ := mem_pickN.1 hx
  have := rk_sub hU hT h hi
  exact mem_pickN.2 ⟨i, by rw [h.len]; exact hi, by simp only [topF, decide_eq_true_eq] at ht ⊢; omega, rfl⟩
theorem may_sub (hU : TabOK U) (hT : TabOK T) (h : SubT U T) (f : Int) : ∀ x ∈ mayL U f, x ∈ mayL T f := by
  intro x hx
  obtain ⟨i, hi, ht, rfl⟩ := mem_pickN.1 hx
  have hi' : i < T.length := by rw [← h.len]; exact hi
  have := rk_sub hU hT h hi'
  exact mem_pickN.2 ⟨i, hi', by simp only [mayF, decide_eq_true_eq] at ht ⊢; omega, rfl⟩
theorem top_sub_len (hU : TabOK U) (hT : TabOK T) (h : SubT U T) (f : Int) : (topL T f).length ≤ (topL U f).length := by
  show (pickTo (topF T f) T.length).length ≤ (pickTo (topF U f) U.length).length
  rw [h.len]
  refine sub_len fun x hx => ?_
  have := top_sub hU hT h f x hx
  unfold topL at this
  rw [h.len] at this
  exact this
theorem may_sub_len (hU : TabOK U) (hT : TabOK T) (h : SubT U T) (f : Int) : (mayL U f).length ≤ (mayL T f).length := by
  show (pickTo (mayF U f) U.length).length ≤ (pickTo (mayF T f) T.length).length
  rw [h.len]
  refine sub_len fun x hx => ?_
  refine may_sub hU hT h f x ?_
  unfold mayL
  rw [h.len]
  exact hx
theorem ords_sub (hU : TabOK U) (hT : TabOK T) (h : SubT U T) : (allO T.length (rowT U)).length ≤ (allO T.length (rowT T)).length := allO_mono hU.row hT.row h.row
theorem cut_row {k : Nat} (h1 : 1 ≤ k) (h2 : k ≤ T.length) {x : Nat → Int} (hx : TruN T.length (rowT T) x) : ∃ i, i < T.length ∧ cutN T.length x k ∈ rowT T i := by
  obtain ⟨i, he, hi, -⟩ := atN_ex (n := T.length) x h1 h2
  refine ⟨i, hi, ?_⟩
  unfold cutN
  rw [he, Int.toNat_natCast]
  exact hx i hi
theorem cut_bd (hG : TabG T) {k : Nat} (h1 : 1 ≤ k) (h2 : k ≤ T.length) {x : Nat → Int} (hx : TruN T.length (rowT T) x) : 0 ≤ cutN T.length x k ∧ cutN T.length x k ≤ 2499 := by
  obtain ⟨i, hi, hm⟩ := cut_row h1 h2 hx
  rw [rowT_get hi] at hm
  exact hG.bd _ (List.getElem_mem hi) _ hm
end
/-- a chart, one meter of which has one more reading -/
def moreC (C : Ch) (t : Nat) (r : Int × Int) : Ch := { C with meters := C.meters.set t (moreM (mtC C t) r) }
theorem moreC_len (C : Ch) (t : Nat) (r : Int × Int) : (moreC C t r).meters.length = C.meters.length := by unfold moreC; simp
theorem mtC_more {C : Ch} {t : Nat} (ht : t < C.meters.length) (r : Int × Int) (j : Nat) : mtC (moreC C t r) j = if j = t then moreM (mtC C t) r else mtC C j := by
  by_cases e : j = t
  · subst e
    rw [if_pos rfl]
    show (C.meters.set j (moreM (mtC C j) r)).getD j ⟨[], [], 0⟩ = _
    rw [List.getD_eq_getElem?_getD, List.getElem?_set_self ht]
    rfl
  · rw [if_neg e]
    show (C.meters.set t (moreM (mtC C t) r)).getD j ⟨[], [], 0⟩ = _
    rw [List.getD_eq_getElem?_getD, List.getElem?_set_ne (fun h => e h.symm), ← List.getD_eq_getElem?_getD]
    rfl
theorem moreC_some {C : Ch} (hC : ValidC C) {t : Nat} {r : Int × Int} (ht : t < C.meters.length) (hN : ValidC (moreC C t r)) (h : someN (moreC C t r) C.meters.length = false) : someN C C.meters.length = false := by
  rw [Bool.eq_false_iff]
  intro hs
  obtain ⟨i, hi, hb⟩ := List.any_eq_true.1 hs
  have hi := List.mem_range.1 hi
  have hz := someN_at h hi
  rw [mtC_more ht] at hz
  have hne := bP_iff.1 hb
  by_cases e : i = t
  · rw [if_pos e] at hz
    subst e
    have h1 := (hN.mtI (i := i) (by rw [moreC_len]; exact hi)).1
    rw [mtC_more ht, if_pos rfl] at h1
    exact hne (more_ask (hC.mtI hi).1 h1 hz)
  · rw [if_neg e] at hz
    exact hne hz
theorem moreC_sub {C : Ch} (hC : ValidC C) {t : Nat} {r : Int × Int} (ht : t < C.meters.length) (hN : ValidC (moreC C t r)) (h : someN (moreC C t r) C.meters.length = false) : SubT (tabC (moreC C t r)) (tabC C) := by
  refine ⟨by rw [tabC_len, tabC_len, moreC_len], fun i hi v hv => ?_⟩
  rw [tabC_len] at hi
  rw [tabC_row (by rw [moreC_len]; exact hi)] at hv
  rw [tabC_row hi]
  unfold rowC at hv ⊢
  obtain ⟨y, hy, rfl⟩ := List.mem_map.1 hv
  refine List.mem_map.2 ⟨y, ?_, rfl⟩
  have hz := someN_at h hi
  rw [mtC_more ht] at hy hz
  by_cases e : i = t
  · subst e
    rw [if_pos rfl] at hy hz
    have h1 := (hN.mtI (i := i) (by rw [moreC_len]; exact hi)).1
    rw [mtC_more ht, if_pos rfl] at h1
    obtain ⟨hM, har⟩ := hC.mtI hi
    exact (more_sums hM h1 har hz).2 y hy
  · rw [if_neg e] at hy
    exact hy
end Go.Proofs.YtaoamnhchidjfaaGreatDoor
namespace Go.Proofs.YtaoamnhchidjfaaGreatDoor
open Go.RowKit

/-- a cell of a row of one's own is written -/
theorem ownsRow_setG {w : World} {B g n c i size : Nat} {e : TypeId} {xs : List Value} (v : Value) (h : w.ownsRow B e size (.slice (some ⟨g, 0, none⟩) n c) n xs) :
    (w.setCell ⟨g, i, none⟩ v).ownsRow B e size (.slice (some ⟨g, 0, none⟩) n c) n (xs.set i v) := by
  refine ⟨by rw [List.length_set]; exact h.1, ?_⟩
  rcases h.2 with ⟨hv, h0⟩ | ⟨g', cap, cur, hv, hB, hg, hc, hm, hs, hx⟩
  · cases hv
  · cases hv
    refine Or.inr ⟨g, c, cur.setIfInBounds i v, rfl, hB, heap_set hg rfl, hc, hm, by simpa using hs, ?_⟩
    rw [Array.toList_setIfInBounds, List.take_set, hx]
/-- what the row of meters says of one meter -/
theorem MtR.get {w : World} {B : Nat} {u : Value} {vs : List Value} {L : List Mt} (h : MtR w B u vs L) {t : Nat} (ht : t < L.length) :
    ∃ gm cm g1 c1 g2 c2, u = .slice (some ⟨gm, 0, none⟩) L.length cm ∧ B ≤ gm ∧ gm < w.heap.size ∧
      w.cell? ⟨gm, t * 3, none⟩ = some (.slice (some ⟨g1, 0, none⟩) L[t].weeks.length c1) ∧ w.cell? ⟨gm, t * 3 + 1, none⟩ = some (.slice (some ⟨g2, 0, none⟩) L[t].reads.length c2) ∧ w.cell? ⟨gm, t * 3 + 2, none⟩ = some (.int .i64 L[t].wrong) ∧
      w.frozen? ⟨gm, t * 3 + 1, none⟩ = false ∧ vs[t * 3 + 1]? = some (.slice (some ⟨g2, 0, none⟩) L[t].reads.length c2) ∧
      w.ownsRow B 51 2 (.slice (some ⟨g2, 0, none⟩) L[t].reads.length c2) L[t].reads.length (pairVs L[t].reads) := by
  rcases h.cells with ⟨-, h0⟩ | ⟨gm, cm, hu, hB, hc⟩
  · rw [h0] at ht; exact absurd ht (by simp)
  · obtain ⟨g1, c1, g2, c2, e0, e1, e2, o1, o2⟩ := h.elt t ht
    have ho := h.out
    rw [hu] at ho
    exact ⟨gm, cm, g1, c1, g2, c2, hu, hB, (ho.lt gm rfl).2, (hc _ (by omega)).trans e0, (hc _ (by omega)).trans e1, (hc _ (by omega)).trans e2, ownsRow_frozen ho, e1, o2⟩
/-- a reading more -/
theorem MtR.setR {w w5 : World} {B gm cm g2 c2 g5 cap5 t : Nat} {vs : List Value} {L : List Mt} (h : MtR w B (.slice (some ⟨gm, 0, none⟩) L.length cm) vs L) (ht : t < L.length) (r : Int × Int)
    (he : vs[t * 3 + 1]? = some (.slice (some ⟨g2, 0, none⟩) L[t].reads.length c2))
    (h5 : w5.ownsRow B 51 2 (.slice (some ⟨g5, 0, none⟩) (L[t].reads.length + 1) cap5) (L[t].reads.length + 1) (pairVs (L[t].reads ++ [r])))
    (hU : Ups g2 w w5) (hor : g5 = g2 ∨ w.heap.size ≤ g5) :
    MtR (w5.setCell ⟨gm, t * 3 + 1, none⟩ (.slice (some ⟨g5, 0, none⟩) (L[t].reads.length + 1) cap5)) B (.slice (some ⟨gm, 0, none⟩) L.length cm)
      (vs.set (t * 3 + 1) (.slice (some ⟨g5, 0, none⟩) (L[t].reads.length + 1) cap5)) (L.set t (moreM L[t] r)) := by
  have hF : Fr (fun k => k = g2) w w5 := ⟨hU.os, hU.tape, hU.output, hU.size, fun k hk hE => hU.block k hk hE⟩
  have hl := h.len
  have hout2 := h.out
  have hrow : ∀ i (hi : i < L.length), ∃ q1 d1 q2 d2, vs[i * 3]? = some (.slice (some ⟨q1, 0, none⟩) L[i].weeks.length d1) ∧ vs[i * 3 + 1]? = some (.slice (some ⟨q2, 0, none⟩) L[i].reads.length d2) ∧ vs[i * 3 + 2]? = some (.int .i64 L[i].wrong) ∧
      w.ownsRow B 36 2 (.slice (some ⟨q1, 0, none⟩) L[i].weeks.length d1) L[i].weeks.length (pairVs L[i].weeks) ∧ w.ownsRow B 51 2 (.slice (some ⟨q2, 0, none⟩) L[i].reads.length d2) L[i].reads.length (pairVs L[i].reads) := fun i hi => by
    obtain ⟨q1, d1, q2, d2, e0, e1, e2, r1, r2⟩ := h.elt i hi
    exact ⟨q1, d1, q2, d2, e0, e1, e2, r1, r2⟩
  have hor2 : w.ownsRow B 51 2 (.slice (some ⟨g2, 0, none⟩) L[t].reads.length c2) L[t].reads.length (pairVs L[t].reads) := by
    obtain ⟨q1, d1, q2, d2, e0, e1, e2, r1, r2⟩ := hrow t ht
    rw [he] at e1
    cases e1
    exact r2
  have hgm5 : w5.ownsRow B 55 3 (.slice (some ⟨gm, 0, none⟩) L.length cm) L.length vs := ownsRow_fr hout2 hF fun x hx hxg => by
    cases hx
    cases hxg
    exact own_ne hout2 hor2 (by decide) rfl
  have hF6 : Fr (fun k => k = gm) w5 (w5.setCell ⟨gm, t * 3 + 1, none⟩ (.slice (some ⟨g5, 0, none⟩) (L[t].reads.length + 1) cap5)) := (Fr.refl _ w5).set (c := gm) rfl
  have off : ∀ {e : TypeId} {q d m : Nat} {xs : List Value}, e ≠ 55 → w5.ownsRow B e 2 (.slice (some ⟨q, 0, none⟩) m d) m xs →
      (w5.setCell ⟨gm, t * 3 + 1, none⟩ (.slice (some ⟨g5, 0, none⟩) (L[t].reads.length + 1) cap5)).ownsRow B e 2 (.slice (some ⟨q, 0, none⟩) m d) m xs := fun hne h' => ownsRow_fr h' hF6 fun x hx hxg => by
    cases hx
    exact own_ne h' hgm5 hne hxg
  have hlen : (L.set t (moreM L[t] r)).length = L.length := by simp
  refine ⟨by rw [List.length_set, hlen]; exact hl, by rw [hlen]; exact ownsRow_setG _ hgm5, fun i hi => ?_, fun i j a b n m c d hij ha hb => ?_⟩
  · have hi' : i < L.length := by rw [hlen] at hi; exact hi
    obtain ⟨q1, d1, q2, d2, e0, e1, e2, r1, r2⟩ := hrow i hi'
    have s1 := off (by decide) (ownsRow_fr r1 hF fun x hx hxg => by
      cases hx
      cases hxg
      exact own_ne r1 hor2 (by decide) rfl)
    by_cases e : i = t
    · subst e
      rw [List.getElem_set_self]
      refine ⟨q1, d1, g5, cap5, ?_, ?_, ?_, s1, ?_⟩
      · rw [List.getElem?_set_ne (by omega)]; exact e0
      · rw [List.getElem?_set_self (by omega)]
        show _ = some (Value.slice (some ⟨g5, 0, none⟩) (L[i].reads ++ [r]).length cap5)
        rw [List.length_append]
        rfl
      · rw [List.getElem?_set_ne (by omega)]; exact e2
      · show World.ownsRow _ _ _ _ (.slice (some ⟨g5, 0, none⟩) (L[i].reads ++ [r]).length cap5) (L[i].reads ++ [r]).length _
        rw [List.length_append]
        exact off (by decide) h5
    · rw [List.getElem_set_ne (fun h => e h.symm)]
      have hne : q2 ≠ g2 := fun hq => by
        rcases Nat.lt_or_gt_of_ne e with c | c
        · exact h.dis i t _ _ _ _ _ _ c e1 he (by simpa using hq)
        · exact h.dis t i _ _ _ _ _ _ c he e1 (by simpa using hq.symm)
      refine ⟨q1, d1, q2, d2, ?_, ?_, ?_, s1, off (by decide) (ownsRow_fr r2 hF fun x hx hxg => ?_)⟩
      · rw [List.getElem?_set_ne (by omega)]; exact e0
      · rw [List.getElem?_set_ne (by omega)]; exact e1
      · rw [List.getElem?_set_ne (by omega)]; exact e2
      · cases hx
        cases hxg
        exact hne rfl
  · have hj : j < L.length := by
      have := (List.getElem?_eq_some_iff.1 hb).1
      rw [List.length_set] at this
      omega
    by_cases ei : i = t
    · subst ei
      rw [List.getElem?_set_self (by omega)] at ha
      cases ha
      rw [List.getElem?_set_ne (by omega)] at hb
      rcases hor with h0 | h0
      · subst h0
        exact h.dis i j _ b _ m _ d hij he hb
      · have := h.blk j hj b m d hb
        show g5 ≠ b.block
        omega
    · rw [List.getElem?_set_ne (by omega)] at ha
      by_cases ej : j = t
      · subst ej
        rw [List.getElem?_set_self (by omega)] at hb
        cases hb
        rcases hor with h0 | h0
        · subst h0
          exact h.dis i j a _ n _ c _ hij ha he
        · have := h.blk i (by omega) a n c ha
          show a.block ≠ g5
          omega
      · rw [List.getElem?_set_ne (by omega)] at hb
        exact h.dis i j a b n m c d hij ha hb
end Go.Proofs.YtaoamnhchidjfaaGreatDoor
namespace Go.Proofs.YtaoamnhchidjfaaGreatDoor
open Go.RowKit

theorem ChG.set {w : World} {B : Nat} {u : Value} {g cx : Nat} {C : Ch} (h : ChG w B u g cx C) (i : Nat) (v : Int) : ChG (w.setCell ⟨g, i, none⟩ (.int .i64 v)) B u g cx (exS C i v) := by
  obtain ⟨⟨vs, hM⟩, hX⟩ := h
  refine ⟨⟨vs, hM.setI _ hX⟩, ?_⟩
  have h2 := ownsRow_set (i := i) (m := v) hX
  show World.ownsRow _ _ _ _ (.slice (some ⟨g, 0, none⟩) (C.extra.set i v).length cx) (C.extra.set i v).length _
  rw [List.length_set]
  exact h2
theorem ChG.cell {w : World} {B : Nat} {u : Value} {g cx : Nat} {C : Ch} (h : ChG w B u g cx C) {i : Nat} (hi : i < C.extra.length) : w.cell? ⟨g, i, none⟩ = some (.int .i64 C.extra[i]) ∧ w.frozen? ⟨g, i, none⟩ = false :=
  ownsRow_cell h.2 hi
theorem ChG.le {w : World} {B : Nat} {u : Value} {g cx : Nat} {C : Ch} (h : ChG w B u g cx C) : B ≤ g ∧ g < w.heap.size := h.2.lt g rfl
theorem exS_get {C : Ch} {t : Nat} (h : t < C.extra.length) (v : Int) : (exS C t v).extra[t]'(by show t < (C.extra.set t v).length; simpa using h) = v := by
  simp [exS]
theorem exS_set (C : Ch) (t : Nat) (a b : Int) : exS (exS C t a) t b = exS C t b := by
  unfold exS
  simp
/-- the first titles have so many plays more -/
def exTo (C : Ch) (m : Int) (k : Nat) : Ch := { C with extra := (C.extra.take k).map (· + m) ++ C.extra.drop k }
theorem exTo_0 (C : Ch) (m : Int) : exTo C m 0 = C := by unfold exTo; simp
theorem exTo_len (C : Ch) (m : Int) (k : Nat) : (exTo C m k).extra.length = C.extra.length := by
  unfold exTo
  simp
  omega
theorem exTo_all (C : Ch) (m : Int) : exTo C m C.extra.length = shC C m := by
  unfold exTo shC
  simp
theorem exTo_get {C : Ch} {m : Int} {k : Nat} (h : k < C.extra.length) : (exTo C m k).extra[k]'(by rw [exTo_len]; exact h) = C.extra[k] := by
  simp only [exTo]
  rw [List.getElem_append_right (by simp; omega), List.getElem_drop]
  congr 1
  simp
  omega
theorem exTo_succ {C : Ch} {m : Int} {k : Nat} (h : k < C.extra.length) : exS (exTo C m k) k (C.extra[k] + m) = exTo C m (k + 1) := by
  unfold exS exTo
  congr 1
  have hl : ((C.extra.take k).map (· + m)).length = k := by simp; omega
  rw [List.set_append_right _ _ (by omega), hl, Nat.sub_self, List.drop_eq_getElem_cons h, List.set_cons_zero, List.take_succ_eq_append_getElem h, List.map_append, List.append_assoc]
  rfl
end Go.Proofs.YtaoamnhchidjfaaGreatDoor
