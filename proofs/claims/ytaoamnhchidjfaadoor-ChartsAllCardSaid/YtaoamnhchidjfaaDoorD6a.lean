
/- Charts: one title has more plays, or each one has: plain law. -/
import Derived.Test.YtaoamnhchidjfaaDoorC9a
import Derived.Test.YtaoamnhchidjfaaDoorC7f
import Derived.Test.YtaoamnhchidjfaaDoorC7g
import Derived.Test.YtaoamnhchidjfaaDoorC7h
import Derived.Test.YtaoamnhchidjfaaDoorC7i
import Derived.Test.YtaoamnhchidjfaaDoorC7k
namespace Go.Proofs.YtaoamnhchidjfaaDoor
open Go.RowKit

theorem wf_sm {n : Int} (h : 0 ≤ n) (h2 : n ≤ 1000000) : (Lit.int .i64 n).wf = true := by
  simp [Lit.wf, IntKind.min, IntKind.max, IntKind.signed, IntKind.bits]
  omega
theorem errC_two {C : Ch} (h : ValidC C) : errC C true = 0 ∨ errC C true = 3 := by
  cases hn : someN C C.meters.length
  · exact Or.inl (errC_ok h hn)
  · exact Or.inr (errC_none h hn)
/-- a chart, one title of which has other extra plays -/
def exS (C : Ch) (t : Nat) (v : Int) : Ch := { C with extra := C.extra.set t v }
theorem exS_valid {C : Ch} (h : ValidC C) {t : Nat} {v : Int} (hv : 0 ≤ v ∧ v ≤ 999) : ValidC (exS C t v) := by
  refine ⟨h.nm, ?_, h.f0, h.ft, h.t5, fun x hx => ?_, h.mt⟩
  · show (C.extra.set t v).length = _
    rw [List.length_set]
    exact h.nx
  · rcases List.mem_or_eq_of_mem_set hx with h1 | h1
    · exact h.ex x h1
    · rw [h1]; exact hv
theorem exS_sm {C : Ch} (h : ChSm C) (t : Nat) (v : Int) : ChSm (exS C t v) := by
  refine ⟨h.nm, ?_, h.mt⟩
  show (C.extra.set t v).length ≤ _
  rw [List.length_set]
  exact h.nx
theorem exS_err {C : Ch} (h : ValidC C) {t : Nat} {v : Int} (hv : 0 ≤ v ∧ v ≤ 999) (is : Bool) : errC (exS C t v) is = errC C is := by
  unfold errC
  rw [if_pos ((okC_iff _).2 (exS_valid h hv)), if_pos ((okC_iff _).2 h)]
  rfl
theorem exC_exS {C : Ch} {t : Nat} (h : t < C.extra.length) (v : Int) (j : Nat) : exC (exS C t v) j = if j = t then v else exC C j := by
  unfold exC exS
  by_cases e : j = t
  · subst e
    rw [if_pos rfl, List.getD_eq_getElem?_getD, List.getElem?_set_self h]
    rfl
  · rw [if_neg e, List.getD_eq_getElem?_getD, List.getElem?_set_ne (fun h => e h.symm), ← List.getD_eq_getElem?_getD]
theorem map_add_add (l : List Int) {a b c : Int} (h : a + b = c) : (l.map (· + a)).map (· + b) = l.map (· + c) := by
  rw [List.map_map]
  refine List.map_congr_left fun x _ => ?_
  show x + a + b = x + c
  omega
theorem exS_tab {C : Ch} (h : C.extra.length = C.meters.length) {t : Nat} (ht : t < C.meters.length) (v : Int) : tabC (exS C t v) = withT (tabC C) t (v - exC C t) := by
  refine List.ext_getElem (by rw [tabC_len, withT_len, tabC_len]; rfl) fun i h1 h2 => ?_
  have hi : i < C.meters.length := by rw [tabC_len] at h1; exact h1
  rw [← rowT_get h1, ← rowT_get h2, tabC_row (C := exS C t v) hi, rowT_with (by rw [tabC_len]; exact ht), tabC_row ht, tabC_row hi]
  unfold rowC
  rw [exC_exS (by omega)]
  by_cases e : i = t
  · subst e
    rw [if_pos rfl, if_pos rfl, map_add_add _ (show exC C i + (v - exC C i) = v by omega)]
    rfl
  · rw [if_neg e, if_neg e]
    rfl
section
variable {T : Tab}
theorem lo_with (hT : TabOK T) {i : Nat} (hi : i < T.length) (m : Int) (j : Nat) : loT (withT T i m) j = if j = i then loT T i + m else loT T j := by
  unfold loT
  rw [rowT_with hi]
  by_cases e : j = i
  · rw [if_pos e, if_pos e, head_add m (hT.ne hi)]
  · rw [if_neg e, if_neg e]
theorem hi_with (hT : TabOK T) {i : Nat} (hi : i < T.length) (m : Int) (j : Nat) : hiT (withT T i m) j = if j = i then hiT T i + m else hiT T j := by
  unfold hiT
  rw [rowT_with hi]
  by_cases e : j = i
  · rw [if_pos e, if_pos e, last_add m (hT.ne hi)]
  · rw [if_neg e, if_neg e]
theorem rkLo_with (hT : TabOK T) {i : Nat} (hi : i < T.length) {m : Int} (hm : 0 ≤ m) : rkLo (withT T i m) i ≤ rkLo T i := by
  unfold rkLo rnkLo
  rw [withT_len]
  refine Nat.add_le_add_left (countP_le_of _ fun j hj h => ?_) 1
  rw [Bool.and_eq_true] at h ⊢
  refine ⟨h.1, ?_⟩
  have hne : j ≠ i := by simpa using h.1
  have h2 := h.2
  rw [lo_with hT hi, if_neg hne, hi_with hT hi, if_pos rfl] at h2
  exact ahd_mono h2 (Int.le_refl _) (by omega)
theorem rkHi_with (hT : TabOK T) {i : Nat} (hi : i < T.length) {m : Int} (hm : 0 ≤ m) : rkHi (withT T i m) i ≤ rkHi T i := by
  rw [rk_with hT hi, rkHi_need]
  have := ndC_mono (T := T) (i := i) (show loT T i ≤ loT T i + m by omega)
  omega
theorem top_with (hT : TabOK T) {i : Nat} (hi : i < T.length) (m f : Int) : inL (topL (withT T i m) f) (i : Int) = true ↔ NeedP T i f (loT T i + m) := by
  rw [show topL (withT T i m) f = pickTo (topF (withT T i m) f) (withT T i m).length from rfl, inL_pick (by rw [withT_len]; exact hi)]
  unfold topF NeedP
  rw [decide_eq_true_eq, rk_with hT hi]
  omega
theorem need_ex {i : Nat} {f : Int} : ∀ B : Nat, NeedP T i f (loT T i + B) → ∃ a, IsNeed T i f a ∧ a ≤ B := by
  intro B
  induction B with
  | zero => exact fun h => ⟨0, ⟨Int.le_refl _, h, fun m h1 h2 => by omega⟩, Int.le_refl _⟩
  | succ B ih =>
    intro h
    by_cases c : NeedP T i f (loT T i + B)
    · obtain ⟨a, h1, h2⟩ := ih c
      exact ⟨a, h1, by omega⟩
    · exact ⟨((B + 1 : Nat) : Int), ⟨by omega, h, fun m h1 h2 h3 => c (h3.mono (by omega))⟩, Int.le_refl _⟩
theorem need_bd (hG : TabG T) {i : Nat} (hi : i < T.length) {f : Int} (hf : 1 ≤ f) : IsNeed T i f (needV T i f) ∧ needV T i f ≤ 2500 := by
  obtain ⟨a, h1, h2⟩ := need_ex (T := T) (i := i) (f := f) 2500 (need_top hf fun j hj => by
    have := hi_bd hG hj
    have := lo_bd hG hi
    omega)
  rw [needV_eq h1]
  exact ⟨h1, h2⟩

/-- all numbers are greater by so much -/
def shT (T : Tab) (m : Int) : Tab := T.map fun l => l.map (· + m)
theorem shT_len (T : Tab) (m : Int) : (shT T m).length = T.length := by unfold shT; simp
theorem rowT_sh (T : Tab) (m : Int) (i : Nat) : rowT (shT T m) i = (rowT T i).map (· + m) := by
  unfold rowT shT
  rw [List.getD_eq_getElem?_getD, List.getD_eq_getElem?_getD, List.getElem?_map]
  cases T[i]? <;> rfl
theorem sh_ok (hT : TabOK T) (m : Int) : TabOK (shT T m) := by
  intro l hl
  obtain ⟨r, hr, rfl⟩ := List.mem_map.1 hl
  exact map_add_ok m (hT r hr)
theorem lo_sh (hT : TabOK T) (m : Int) {i : Nat} (hi : i < T.length) : loT (shT T m) i = loT T i + m := by
  unfold loT
  rw [rowT_sh, head_add m (hT.ne hi)]
theorem hi_sh (hT : TabOK T) (m : Int) {i : Nat} (hi : i < T.length) : hiT (shT T m) i = hiT T i + m := by
  unfold hiT
  rw [rowT_sh, last_add m (hT.ne hi)]
theorem ahd_sh (j i : Nat) (a b m : Int) : ahd j (a + m) i (b + m) = ahd j a i b := by
  rw [Bool.eq_iff_iff, ahd_iff, ahd_iff]
  omega
theorem rkLo_sh (hT : TabOK T) (m : Int) {i : Nat} (hi : i < T.length) : rkLo (shT T m) i = rkLo T i := by
  unfold rkLo rnkLo
  rw [shT_len]
  congr 1
  refine List.countP_congr fun j hj => ?_
  rw [lo_sh hT m (List.mem_range.1 hj), hi_sh hT m hi, ahd_sh]
theorem rkHi_sh (hT : TabOK T) (m : Int) {i : Nat} (hi : i < T.length) : rkHi (shT T m) i = rkHi T i := by
  unfold rkHi rnkHi
  rw [shT_len]
  congr 1
  refine List.countP_congr fun j hj => ?_
  rw [hi_sh hT m (List.mem_range.1 hj), lo_sh hT m hi, ahd_sh]
theorem kth_sh {n : Nat} {x y : Nat → Int} {m : Int} (h : ∀ i, i < n → y i = x i + m) {k : Nat} {v : Int} (hk : Kth n x k v) : Kth n y k (v + m) := by
  unfold Kth at hk ⊢
  have e1 : (List.range n).countP (fun j => decide (v + m < y j)) = (List.range n).countP (fun j => decide (v < x j)) := List.countP_congr fun j hj => by
    rw [h j (List.mem_range.1 hj), decide_eq_true_eq, decide_eq_true_eq]; omega
  have e2 : (List.range n).countP (fun j => decide (v + m ≤ y j)) = (List.range n).countP (fun j => decide (v ≤ x j)) := List.countP_congr fun j hj => by
    rw [h j (List.mem_range.1 hj), decide_eq_true_eq, decide_eq_true_eq]; omega
  rw [e1, e2]
  exact hk
theorem cutLo_sh (hT : TabOK T) (m : Int) {k : Nat} (h1 : 1 ≤ k) (h2 : k ≤ T.length) : cutN (shT T m).length (loT (shT T m)) k = cutN T.length (loT T) k + m := by
  rw [shT_len]
  exact Kth.uniq (cut_kth _ h1 h2) (kth_sh (fun i hi => lo_sh hT m hi) (cut_kth _ h1 h2))
theorem cutHi_sh (hT : TabOK T) (m : Int) {k : Nat} (h1 : 1 ≤ k) (h2 : k ≤ T.length) : cutN (shT T m).length (hiT (shT T m)) k = cutN T.length (hiT T) k + m := by
  rw [shT_len]
  exact Kth.uniq (cut_kth _ h1 h2) (kth_sh (fun i hi => hi_sh hT m hi) (cut_kth _ h1 h2))
theorem topL_sh (hT : TabOK T) (m f : Int) : topL (shT T m) f = topL T f := by
  unfold topL
  rw [shT_len]
  exact pick_congr fun i hi => by unfold topF; rw [rkHi_sh hT m hi]
theorem mayL_sh (hT : TabOK T) (m f : Int) : mayL (shT T m) f = mayL T f := by
  unfold mayL
  rw [shT_len]
  exact pick_congr fun i hi => by unfold mayF; rw [rkLo_sh hT m hi]
theorem openN_sh (hT : TabOK T) (m f : Int) : openN (shT T m) f = openN T f := by
  unfold openN
  rw [shT_len]
  exact List.countP_congr fun i hi => by unfold openF mayF; rw [rkHi_sh hT m (List.mem_range.1 hi), rkLo_sh hT m (List.mem_range.1 hi)]
theorem pin_sh (T : Tab) (m : Int) (i : Nat) (v : Int) : pinT (shT T m) i (v + m) = shT (pinT T i v) m := by
  unfold pinT shT
  rw [List.map_set]
  rfl
theorem mostT_sh (hT : TabOK T) (m f : Int) (i k : Nat) : mostT (shT T m) f i k = mostT T f i k := by
  unfold mostT
  rw [rowT_sh, ← List.map_take, List.foldl_map]
  congr 1
  funext a v
  rw [pin_sh, openN_sh (pin_ok hT i v)]
theorem nxTo_sh (hT : TabOK T) (m f : Int) (k : Nat) : nxTo (shT T m) f k = nxTo T f k := by
  unfold nxTo
  congr 1
  funext o i
  unfold nxStep
  rw [mostT_sh hT, rowT_sh, List.length_map]
theorem ndC_sh (hT : TabOK T) (m : Int) (i : Nat) (v : Int) : ndC (shT T m) i (v + m) = ndC T i v := by
  unfold ndC
  rw [shT_len]
  refine List.countP_congr fun j hj => ?_
  rw [hi_sh hT m (List.mem_range.1 hj), ahd_sh]
theorem isNeed_sh (hT : TabOK T) (m : Int) {i : Nat} (hi : i < T.length) (f a : Int) : IsNeed (shT T m) i f a ↔ IsNeed T i f a := by
  have key : ∀ b, NeedP (shT T m) i f (loT (shT T m) i + b) ↔ NeedP T i f (loT T i + b) := fun b => by
    unfold NeedP
    rw [lo_sh hT m hi, show loT T i + m + b = loT T i + b + m by omega, ndC_sh hT]
  unfold IsNeed
  rw [key]
  refine and_congr Iff.rfl (and_congr Iff.rfl ⟨fun h b h1 h2 h3 => h b h1 h2 ((key b).2 h3), fun h b h1 h2 h3 => h b h1 h2 ((key b).1 h3)⟩)
theorem needV_sh (hT : TabOK T) (m : Int) {i : Nat} (hi : i < T.length) (f : Int) : needV (shT T m) i f = needV T i f := by
  by_cases h : ∃ a, IsNeed T i f a
  · obtain ⟨a, ha⟩ := h
    rw [needV_eq ha, needV_eq ((isNeed_sh hT m hi f a).2 ha)]
  · unfold needV
    rw [dif_neg h, dif_neg fun ⟨a, ha⟩ => h ⟨a, (isNeed_sh hT m hi f a).1 ha⟩]
theorem nextP_sh (prev : Option (Nat × Int)) (i : Nat) (v m : Int) : nextP (prev.map fun p => (p.1, p.2 + m)) i (v + m) = nextP prev i v := by
  cases prev with
  | none => rfl
  | some p => exact ahd_sh _ _ _ _ _
theorem chainF_sh {x y : Nat → Int} {m : Int} (h : ∀ i, y i = x i + m) : ∀ (l : List Nat) (prev : Option (Nat × Int)), chainF x prev l → chainF y (prev.map fun p => (p.1, p.2 + m)) l := by
  intro l
  induction l with
  | nil => intro _ _; trivial
  | cons i r ih =>
    intro prev hc
    refine ⟨?_, ?_⟩
    · rw [h i, nextP_sh]; exact hc.1
    · have := ih _ hc.2
      rw [h i]
      exact this
theorem allO_sh (hT : TabOK T) (m : Int) : (allO T.length (rowT (shT T m))).length = (allO T.length (rowT T)).length := by
  refine (len_allO (sh_ok hT m).row nodup_allO fun π => ?_).symm
  rw [mem_allO hT.row]
  constructor
  · rintro ⟨x, hx, hp, hc⟩
    refine ⟨fun i => x i + m, fun i hi => ?_, hp, chainF_sh (fun _ => rfl) _ none hc⟩
    rw [rowT_sh]
    exact List.mem_map.2 ⟨x i, hx i hi, rfl⟩
  · rintro ⟨x, hx, hp, hc⟩
    refine ⟨fun i => x i + -m, fun i hi => ?_, hp, chainF_sh (m := -m) (fun _ => rfl) _ none hc⟩
    have := hx i hi
    rw [rowT_sh] at this
    obtain ⟨v, hv, he⟩ := List.mem_map.1 this
    have e : x i + -m = v := by omega
    show x i + -m ∈ rowT T i
    rw [e]
    exact hv
end
/-- a chart, all titles of which have so many plays more -/
def shC (C : Ch) (m : Int) : Ch := { C with extra := C.extra.map (· + m) }
theorem shC_sm {C : Ch} (h : ChSm C) (m : Int) : ChSm (shC C m) := by
  refine ⟨h.nm, ?_, h.mt⟩
  show (C.extra.map (· + m)).length ≤ _
  rw [List.length_map]
  exact h.nx
theorem shC_err {C : Ch} (h : ValidC C) {m : Int} (h' : ValidC (shC C m)) (is : Bool) : errC (shC C m) is = errC C is := by
  unfold errC
  rw [if_pos ((okC_iff _).2 h'), if_pos ((okC_iff _).2 h)]
  rfl
theorem shC_tab {C : Ch} (h : C.extra.length = C.meters.length) (m : Int) : tabC (shC C m) = shT (tabC C) m := by
  refine List.ext_getElem (by rw [tabC_len, shT_len, tabC_len]; rfl) fun i h1 h2 => ?_
  have hi : i < C.meters.length := by rw [tabC_len] at h1; exact h1
  have hx : exC (shC C m) i = exC C i + m := by
    rw [exC_get (show i < C.extra.length by omega), exC_get (show i < (shC C m).extra.length by unfold shC; simp; omega)]
    simp [shC]
  rw [← rowT_get h1, ← rowT_get h2, tabC_row (C := shC C m) hi, rowT_sh, tabC_row hi]
  unfold rowC
  rw [hx, map_add_add _ rfl]
  rfl
end Go.Proofs.YtaoamnhchidjfaaDoor
