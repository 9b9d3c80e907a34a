
/- The reference's sums, shows, weeks and rounds, reckoned over all truths: the plain law. -/
import Derived.Test.YtaoamnhchidjfaaGreatDoorQ8a
namespace Go.Proofs.YtaoamnhchidjfaaGreatDoor
open Go.RowKit

theorem asc_ext : ∀ {l m : List Int}, l.Pairwise (· < ·) → m.Pairwise (· < ·) → (∀ x, x ∈ l ↔ x ∈ m) → l = m
  | [], [], _, _, _ => rfl
  | [], y :: m, _, _, h => absurd ((h y).2 List.mem_cons_self) (by simp)
  | x :: l, [], _, _, h => absurd ((h x).1 List.mem_cons_self) (by simp)
  | x :: l, y :: m, hl, hm, h => by
    obtain ⟨a1, a2⟩ := List.pairwise_cons.1 hl
    obtain ⟨b1, b2⟩ := List.pairwise_cons.1 hm
    have e : x = y := by
      rcases List.mem_cons.1 ((h x).1 List.mem_cons_self) with e | e
      · exact e
      · rcases List.mem_cons.1 ((h y).2 List.mem_cons_self) with e2 | e2
        · exact e2.symm
        · have := a1 y e2
          have := b1 x e
          omega
    subst e
    rw [asc_ext a2 b2 fun z => ?_]
    constructor
    · intro hz
      rcases List.mem_cons.1 ((h z).1 (List.mem_cons_of_mem _ hz)) with e | e
      · have := a1 z hz; omega
      · exact e
    · intro hz
      rcases List.mem_cons.1 ((h z).2 (List.mem_cons_of_mem _ hz)) with e | e
      · have := b1 z hz; omega
      · exact e
theorem cast_rises {l : List Nat} (h : l.Pairwise (· < ·)) : (l.map fun n : Nat => (n : Int)).Pairwise (· < ·) := by
  rw [List.pairwise_map]
  exact h.imp fun h => by omega
theorem pick_rises (f : Nat → Bool) (k : Nat) : (pickTo f k).Pairwise (· < ·) := by
  unfold pickTo
  exact cast_rises (List.Pairwise.filter _ List.pairwise_lt_range)
/-- how often a number is counted among the first truths -/
def cntT (g : Int × List Int → Int) (T : List (Int × List Int)) (k : Nat) (s : Int) : Nat := (T.take k).countP fun t => decide (g t = s)
theorem cntT_succ {g : Int × List Int → Int} {T : List (Int × List Int)} {k : Nat} (h : k < T.length) (s : Int) : cntT g T (k + 1) s = cntT g T k s + if g T[k] = s then 1 else 0 := by
  unfold cntT
  rw [List.take_succ_eq_append_getElem h, List.countP_append]
  simp [List.countP_cons]
theorem cntT_le (g : Int × List Int → Int) (T : List (Int × List Int)) (k : Nat) (s : Int) : cntT g T k s ≤ T.length := Nat.le_trans List.countP_le_length (by rw [List.length_take]; exact Nat.min_le_right _ _)
theorem cntT_pos {g : Int × List Int → Int} {T : List (Int × List Int)} {s : Int} : 0 < cntT g T T.length s ↔ ∃ t ∈ T, g t = s := by
  unfold cntT
  rw [List.take_length, List.countP_pos_iff]
  simp
/-- the numbers up to a limit that are counted -/
def srtL (g : Int × List Int → Int) (T : List (Int × List Int)) (m : Nat) : List Int := pickTo (fun n => decide (0 < cntT g T T.length n)) (m + 1)
theorem mem_srtL {g : Int × List Int → Int} {T : List (Int × List Int)} {m : Nat} (h : ∀ t ∈ T, 0 ≤ g t ∧ g t ≤ m) {x : Int} : x ∈ srtL g T m ↔ ∃ t ∈ T, g t = x := by
  unfold srtL
  constructor
  · intro hx
    unfold pickTo at hx
    rw [List.mem_map] at hx
    obtain ⟨n, hn, rfl⟩ := hx
    have := (List.mem_filter.1 hn).2
    exact cntT_pos.1 (by simpa using this)
  · rintro ⟨t, ht, rfl⟩
    have := h t ht
    unfold pickTo
    rw [List.mem_map]
    refine ⟨(g t).toNat, List.mem_filter.2 ⟨List.mem_range.2 (by omega), ?_⟩, by omega⟩
    rw [decide_eq_true_eq, cntT_pos]
    exact ⟨t, ht, by omega⟩
def sumG (f t : Int) (x : Int × List Int) : Int := dOf x.1 x.2 t.toNat - dOf x.1 x.2 f.toNat
def shownG (a : Int) (x : Int × List Int) : Int := dOf x.1 x.2 a.toNat % 100
def rndG (x : Int × List Int) : Int := dOf x.1 x.2 x.2.length / 100
section
variable {M : Mt}
theorem truthsL_bd (hM : ValidM M) {n : Int} {x : Int × List Int} (h : x ∈ truthsL M n) {a b : Nat} (hab : a ≤ b) (hb : b ≤ M.weeks.length) : 0 ≤ dOf x.1 x.2 b - dOf x.1 x.2 a ∧ dOf x.1 x.2 b - dOf x.1 x.2 a ≤ 1500 :=
  dOf_small (truthsL_ok hM h) hab (by rw [(truth_zero h).2]; exact hb)
theorem sums_ref (hM : ValidM M) {f t : Int} (hb : areB f t M.weeks.length = true) (hz : askV M true = 0) : sumsA M f t = srtL (sumG f t) (truthsL M M.wrong) 1500 := by
  obtain ⟨e, h1, h2⟩ := sumsA_list hM hb hz
  refine asc_ext (by rw [e]; exact cast_rises (bitsN_rises _)) (pick_rises _ _) fun x => ?_
  rw [sumsA_mem hM hb hz, mem_srtL (g := sumG f t) (fun y hy => truthsL_bd hM hy h1 h2)]
  exact tru_ex hM fun D E h h3 => by rw [← h3, h _ h2, h _ (Nat.le_trans h1 h2)]; omega
theorem shows_ref (hM : ValidM M) {a : Int} (hb : isAf a M.weeks.length = true) (hz : askV M true = 0) : showsA M a = srtL (shownG a) (truthsL M M.wrong) 99 := by
  obtain ⟨e, h1⟩ := showsA_list hM hb hz
  refine asc_ext ?_ (pick_rises _ _) fun x => ?_
  · rw [e]
    refine cast_rises ?_
    unfold showsL
    exact List.Pairwise.filter _ List.pairwise_lt_range
  · rw [showsA_mem hM hb hz, mem_srtL (g := shownG a) (fun y hy => by unfold shownG; omega)]
    exact tru_ex hM fun D E h h3 => by rw [← h3, h _ h1]; omega
/-- the least and the greatest of the first ones -/
def minG (g : Int × List Int → Int) (T : List (Int × List Int)) (k : Nat) : Int := (T.take k).foldl (fun b t => min b (g t)) (g (T.headD (0, [])))
def maxG (g : Int × List Int → Int) (T : List (Int × List Int)) (k : Nat) : Int := (T.take k).foldl (fun b t => max b (g t)) (g (T.headD (0, [])))
theorem minG_succ {g : Int × List Int → Int} {T : List (Int × List Int)} {k : Nat} (h : k < T.length) : minG g T (k + 1) = min (minG g T k) (g T[k]) := by
  unfold minG
  rw [List.take_succ_eq_append_getElem h, List.foldl_append]
  rfl
theorem maxG_succ {g : Int × List Int → Int} {T : List (Int × List Int)} {k : Nat} (h : k < T.length) : maxG g T (k + 1) = max (maxG g T k) (g T[k]) := by
  unfold maxG
  rw [List.take_succ_eq_append_getElem h, List.foldl_append]
  rfl
theorem foldG_min (g : Int × List Int → Int) : ∀ (l : List (Int × List Int)) (b : Int), (l.foldl (fun b t => min b (g t)) b = b ∨ ∃ t ∈ l, l.foldl (fun b t => min b (g t)) b = g t) ∧ l.foldl (fun b t => min b (g t)) b ≤ b ∧ ∀ t ∈ l, l.foldl (fun b t => min b (g t)) b ≤ g t
  | [], b => ⟨Or.inl rfl, Int.le_refl _, fun t h => absurd h (by simp)⟩
  | x :: l, b => by
    obtain ⟨h1, h2, h3⟩ := foldG_min g l (min b (g x))
    rw [List.foldl_cons]
    refine ⟨?_, by omega, fun t ht => ?_⟩
    · rcases h1 with h1 | ⟨t, ht, h1⟩
      · by_cases hc : b ≤ g x
        · exact Or.inl (by omega)
        · exact Or.inr ⟨x, List.mem_cons_self, by omega⟩
      · exact Or.inr ⟨t, List.mem_cons_of_mem _ ht, h1⟩
    · rcases List.mem_cons.1 ht with rfl | ht
      · omega
      · exact h3 t ht
theorem foldG_max (g : Int × List Int → Int) : ∀ (l : List (Int × List Int)) (b : Int), (l.foldl (fun b t => max b (g t)) b = b ∨ ∃ t ∈ l, l.foldl (fun b t => max b (g t)) b = g t) ∧ b ≤ l.foldl (fun b t => max b (g t)) b ∧ ∀ t ∈ l, g t ≤ l.foldl (fun b t => max b (g t)) b
  | [], b => ⟨Or.inl rfl, Int.le_refl _, fun t h => absurd h (by simp)⟩
  | x :: l, b => by
    obtain ⟨h1, h2, h3⟩ := foldG_max g l (max b (g x))
    rw [List.foldl_cons]
    refine ⟨?_, by omega, fun t ht => ?_⟩
    · rcases h1 with h1 | ⟨t, ht, h1⟩
      · by_cases hc : g x ≤ b
        · exact Or.inl (by omega)
        · exact Or.inr ⟨x, List.mem_cons_self, by omega⟩
      · exact Or.inr ⟨t, List.mem_cons_of_mem _ ht, h1⟩
    · rcases List.mem_cons.1 ht with rfl | ht
      · omega
      · exact h3 t ht
theorem spanG {g : Int × List Int → Int} {T : List (Int × List Int)} (hT : T ≠ []) : SpanOf (fun x => ∃ t ∈ T, g t = x) (minG g T T.length) (maxG g T T.length) := by
  have hh : T.headD (0, []) ∈ T := by
    match T, hT with
    | x :: l, _ => exact List.mem_cons_self
  obtain ⟨h1, h2, h3⟩ := foldG_min g T (g (T.headD (0, [])))
  obtain ⟨k1, k2, k3⟩ := foldG_max g T (g (T.headD (0, [])))
  unfold minG maxG
  rw [List.take_length]
  refine ⟨?_, ?_, ?_⟩
  · rcases h1 with h1 | ⟨t, ht, h1⟩
    · exact ⟨_, hh, h1.symm⟩
    · exact ⟨t, ht, h1.symm⟩
  · rcases k1 with k1 | ⟨t, ht, k1⟩
    · exact ⟨_, hh, k1.symm⟩
    · exact ⟨t, ht, k1.symm⟩
  · rintro x ⟨t, ht, rfl⟩
    exact ⟨h3 t ht, k3 t ht⟩
theorem rounds_ref (hM : ValidM M) (hz : askV M true = 0) : roundLo M = minG rndG (truthsL M M.wrong) (truthsL M M.wrong).length ∧ roundHi M = maxG rndG (truthsL M M.wrong) (truthsL M M.wrong).length := by
  have h1 := roundA_span hM hz
  have h2 := spanG (g := rndG) ((truths_known hM).1 hz)
  refine SpanOf.uniq h1 (?_ : SpanOf (RoundsP M) _ _)
  have e : RoundsP M = fun x => ∃ t ∈ truthsL M M.wrong, rndG t = x := by
    funext x
    apply propext
    have key : (∃ D, Tru M D ∧ rd M D = x) ↔ ∃ t ∈ truthsL M M.wrong, rd M (dOf t.1 t.2) = x := by
      refine tru_ex hM fun D E h h3 => ?_
      rw [← h3]
      unfold rd
      rw [h _ (Nat.le_refl _), h 0 (Nat.zero_le _)]
      congr 1
      omega
    refine Iff.trans key ?_
    have e2 : ∀ t ∈ truthsL M M.wrong, rd M (dOf t.1 t.2) = rndG t := by
      intro t ht
      have h0 := truth_zero ht
      have h3 := dOf_zero t.1 t.2
      unfold rd rndG
      rw [h0.2, h0.1, h3]
      congr 1
      omega
    constructor
    · rintro ⟨t, ht, rfl⟩; exact ⟨t, ht, (e2 t ht).symm⟩
    · rintro ⟨t, ht, rfl⟩; exact ⟨t, ht, e2 t ht⟩
  rw [e]
  exact h2
theorem last_cast (l : List Nat) : ((l.getLastD 0 : Nat) : Int) = (l.map fun n : Nat => (n : Int)).getLastD 0 := by
  rw [List.getLastD_eq_getLast?, List.getLastD_eq_getLast?, List.getLast?_map]
  cases l.getLast? <;> rfl
/-- the first and the last of the sums of a week -/
theorem week_ref (hM : ValidM M) {k : Int} (hb : isWkB k M.weeks.length = true) (hz : askV M true = 0) : sumsA M k (k + 1) ≠ [] ∧ weekLo M k = (sumsA M k (k + 1)).headD 0 ∧ weekHi M k = (sumsA M k (k + 1)).getLastD 0 := by
  have hk := isWkB_iff.1 hb
  have hab : areB k (k + 1) M.weeks.length = true := areB_iff.2 (by omega)
  obtain ⟨e, h1, h2⟩ := sumsA_list hM hab hz
  have e2 : (k + 1).toNat = k.toNat + 1 := by omega
  rw [e2] at e
  have hs := week_span_of hM (a := k.toNat) (b := k.toNat + 1) (by omega) (by omega) ((askV_iff hM).1 hz)
  rw [e]
  unfold weekLo weekHi
  rw [hb, hz, okN_0 rfl, okN_0 rfl]
  obtain ⟨l, hl⟩ : ∃ l, l = sumsL M k.toNat (k.toNat + 1) := ⟨_, rfl⟩
  rw [← hl] at hs ⊢
  refine ⟨fun e => hs.1 (by simpa using e), ?_, ?_⟩
  · cases l <;> simp
  · exact last_cast l
end
end Go.Proofs.YtaoamnhchidjfaaGreatDoor
