/- The reference's Next: how many sums there are with what a meter shows: the plain law. -/
import Derived.Test.YtimelbcfaniifaaDoorQ9a
namespace Go.Proofs.YtimelbcfaniifaaDoor
open Go.RowKit

def totG (nw : Nat) (x : Int × List Int) : Int := dOf x.1 x.2 nw - dOf x.1 x.2 0
/-- how often a pair is counted among the first truths -/
def cntP (a nw : Nat) (T : List (Int × List Int)) (k : Nat) (s n : Int) : Nat := (T.take k).countP fun t => decide (shownG a t = s) && decide (totG nw t = n)
theorem cntP_succ {a nw : Nat} {T : List (Int × List Int)} {k : Nat} (h : k < T.length) (s n : Int) : cntP a nw T (k + 1) s n = cntP a nw T k s n + if shownG a T[k] = s ∧ totG nw T[k] = n then 1 else 0 := by
  unfold cntP
  rw [List.take_succ_eq_append_getElem h, List.countP_append]
  simp [List.countP_cons]
theorem cntP_le (a nw : Nat) (T : List (Int × List Int)) (k : Nat) (s n : Int) : cntP a nw T k s n ≤ T.length := Nat.le_trans List.countP_le_length (by rw [List.length_take]; exact Nat.min_le_right _ _)
theorem cntP_pos {a nw : Nat} {T : List (Int × List Int)} {s n : Int} : 0 < cntP a nw T T.length s n ↔ ∃ t ∈ T, shownG a t = s ∧ totG nw t = n := by
  unfold cntP
  rw [List.take_length, List.countP_pos_iff]
  simp
/-- how many different sums go with what is shown -/
def manyT (N a nw : Nat) (T : List (Int × List Int)) (k : Nat) (s : Int) : Nat := (List.range N).countP fun n : Nat => decide (0 < cntP a nw T k s n)
theorem countP_or (p : Nat → Bool) : ∀ (N m : Nat), m < N → p m = false → (List.range N).countP (fun n => p n || decide (n = m)) = (List.range N).countP p + 1 := by
  intro N
  induction N with
  | zero => intro m h; omega
  | succ N ih =>
    intro m h hp
    rw [List.range_succ, List.countP_append, List.countP_append]
    by_cases e : m = N
    · subst e
      have h1 : (List.range m).countP (fun n => p n || decide (n = m)) = (List.range m).countP p := by
        refine List.countP_congr fun x hx => ?_
        have := List.mem_range.1 hx
        have : ¬x = m := by omega
        simp [this]
      rw [h1]
      simp [hp]
    · rw [ih m (by omega) hp]
      have h2 : ¬N = m := fun h => e h.symm
      simp [List.countP_cons, h2]
      omega
theorem many_old {N a nw : Nat} {T : List (Int × List Int)} {k : Nat} (h : k < T.length) (ho : 0 < cntP a nw T k (shownG a T[k]) (totG nw T[k])) (s : Int) : manyT N a nw T (k + 1) s = manyT N a nw T k s := by
  unfold manyT
  refine List.countP_congr fun n _ => ?_
  rw [decide_eq_true_eq, decide_eq_true_eq, cntP_succ h]
  by_cases e : shownG a T[k] = s ∧ totG nw T[k] = n
  · rw [if_pos e, ← e.1, ← e.2]; omega
  · rw [if_neg e]; omega
theorem many_new {N a nw : Nat} {T : List (Int × List Int)} {k : Nat} (h : k < T.length) (ho : cntP a nw T k (shownG a T[k]) (totG nw T[k]) = 0) (h0 : 0 ≤ totG nw T[k]) (h1 : totG nw T[k] < N) (s : Int) :
    manyT N a nw T (k + 1) s = manyT N a nw T k s + if s = shownG a T[k] then 1 else 0 := by
  unfold manyT
  by_cases e : s = shownG a T[k]
  · rw [if_pos e]
    obtain ⟨m, hm⟩ : ∃ m : Nat, totG nw T[k] = m := ⟨(totG nw T[k]).toNat, by omega⟩
    rw [hm] at ho h1
    rw [← countP_or _ N m (by omega) (by rw [e, ho]; rfl)]
    refine List.countP_congr fun n _ => ?_
    rw [Bool.or_eq_true, decide_eq_true_eq, decide_eq_true_eq, decide_eq_true_eq, cntP_succ h, hm]
    by_cases e2 : n = m
    · subst e2
      rw [if_pos ⟨e.symm, rfl⟩]
      omega
    · rw [if_neg (fun h => e2 (by omega))]
      omega
  · rw [if_neg e, Nat.add_zero]
    refine List.countP_congr fun n _ => ?_
    rw [decide_eq_true_eq, decide_eq_true_eq, cntP_succ h, if_neg (fun h => e h.1.symm)]
    omega
theorem manyT_le (N a nw : Nat) (T : List (Int × List Int)) (k : Nat) (s : Int) : manyT N a nw T k s ≤ N := Nat.le_trans List.countP_le_length (by simp)
def worstT (S N a nw : Nat) (T : List (Int × List Int)) (k : Nat) : Nat := (List.range S).foldl (fun (m s : Nat) => max m (manyT N a nw T k s)) 0
theorem worstT_le (S N a nw : Nat) (T : List (Int × List Int)) (k : Nat) : worstT S N a nw T k ≤ N := by
  rcases (foldmax (f := fun s : Nat => manyT N a nw T k s) (List.range S) 0).2 with h | ⟨s, -, h⟩
  · unfold worstT; omega
  · have := manyT_le N a nw T k s
    unfold worstT
    omega
theorem worst_zero (S N a nw : Nat) (T : List (Int × List Int)) : worstT S N a nw T 0 = 0 := by
  have hm : ∀ s : Nat, manyT N a nw T 0 s = 0 := fun s => by
    unfold manyT cntP
    simp
  rcases (foldmax (f := fun s : Nat => manyT N a nw T 0 s) (List.range S) 0).2 with h | ⟨s, -, h⟩
  · exact h
  · unfold worstT; rw [h]; exact hm s
theorem worst_old {S N a nw : Nat} {T : List (Int × List Int)} {k : Nat} (h : k < T.length) (ho : 0 < cntP a nw T k (shownG a T[k]) (totG nw T[k])) : worstT S N a nw T (k + 1) = worstT S N a nw T k := by
  unfold worstT
  congr 1
  funext m s
  rw [many_old h ho]
theorem worst_new {S N a nw : Nat} {T : List (Int × List Int)} {k : Nat} (h : k < T.length) (ho : cntP a nw T k (shownG a T[k]) (totG nw T[k]) = 0) (h0 : 0 ≤ totG nw T[k]) (h1 : totG nw T[k] < N) (hS : 100 ≤ S) :
    worstT S N a nw T (k + 1) = max (worstT S N a nw T k) (manyT N a nw T (k + 1) (shownG a T[k])) := by
  have hs : ∃ s : Nat, shownG a T[k] = s ∧ s < S := ⟨(shownG a T[k]).toNat, by unfold shownG; omega, by unfold shownG; omega⟩
  obtain ⟨s, hs, hs2⟩ := hs
  have hm := many_new h ho h0 h1
  obtain ⟨⟨-, k2⟩, k3⟩ := foldmax (f := fun s : Nat => manyT N a nw T k s) (List.range S) 0
  obtain ⟨⟨-, l2⟩, l3⟩ := foldmax (f := fun s : Nat => manyT N a nw T (k + 1) s) (List.range S) 0
  have w1 : worstT S N a nw T k = (List.range S).foldl (fun m s => max m ((fun s : Nat => manyT N a nw T k s) s)) 0 := rfl
  have w2 : worstT S N a nw T (k + 1) = (List.range S).foldl (fun m s => max m ((fun s : Nat => manyT N a nw T (k + 1) s) s)) 0 := rfl
  rw [← w1] at k2 k3
  rw [← w2] at l2 l3
  have a1 : worstT S N a nw T k ≤ worstT S N a nw T (k + 1) := by
    rcases k3 with e | ⟨x, hx, e⟩
    · omega
    · have := l2 x hx
      have := hm x
      simp only at *
      omega
  have a2 : manyT N a nw T (k + 1) (shownG a T[k]) ≤ worstT S N a nw T (k + 1) := by rw [hs]; exact l2 s (List.mem_range.2 hs2)
  rcases l3 with e | ⟨x, hx, e⟩
  · omega
  · by_cases hc : (x : Int) = shownG a T[k]
    · rw [← hc] at a2 ⊢
      omega
    · have := hm x
      rw [if_neg hc] at this
      have := k2 x hx
      omega
section
variable {M : Mt}
set_option maxRecDepth 20000 in
theorem many_full (hM : ValidM M) {a : Nat} (ha : a ≤ M.weeks.length) {s : Nat} (hs : s < 100) : manyT 1536 a M.weeks.length (truthsL M M.wrong) (truthsL M M.wrong).length s = countN M a s := by
  unfold manyT countN bitsN
  rw [List.countP_eq_length_filter]
  congr 1
  refine List.filter_congr fun n _ => ?_
  rw [Bool.eq_iff_iff, decide_eq_true_eq, cntP_pos, totals_law hM (by omega) (by omega) ha]
  refine ((tru_ex hM (P := fun D => D a % 100 = s ∧ D M.weeks.length - D 0 = n) fun D E h h3 => ?_).trans ?_).symm
  · have e1 := h a ha
    have e2 := h _ (Nat.le_refl M.weeks.length)
    have e3 := h 0 (Nat.zero_le _)
    obtain ⟨h3, h4⟩ := h3
    constructor
    · rw [← h3, e1]; omega
    · rw [e2, e3]; omega
  · rfl
set_option maxRecDepth 20000 in
theorem worst_full (hM : ValidM M) {a : Nat} (ha : a ≤ M.weeks.length) : worstT 100 1536 a M.weeks.length (truthsL M M.wrong) (truthsL M M.wrong).length = mostN M a := by
  unfold worstT mostN
  have : ∀ (l : List Nat) (b : Nat), (∀ s ∈ l, s < 100) → l.foldl (fun (m s : Nat) => max m (manyT 1536 a M.weeks.length (truthsL M M.wrong) (truthsL M M.wrong).length s)) b = l.foldl (fun m s => max m (countN M a s)) b := by
    intro l
    induction l with
    | nil => intro b _; rfl
    | cons x l ih =>
      intro b h
      rw [List.foldl_cons, List.foldl_cons, many_full hM ha (h x List.mem_cons_self)]
      exact ih _ (fun s hs => h s (List.mem_cons_of_mem _ hs))
  exact this _ _ (fun s hs => List.mem_range.1 hs)
/-- the best number of weeks, and the least of the worst numbers, of those tried -/
def refStep (M : Mt) (o : Int × Int) (a : Nat) : Int × Int := if o.2 < 0 ∨ (mostN M a : Int) < o.2 then ((a : Int), (mostN M a : Int)) else o
def refTo (M : Mt) (k : Nat) : Int × Int := (List.range k).foldl (refStep M) (0, -1)
theorem refTo_succ (M : Mt) (k : Nat) : refTo M (k + 1) = refStep M (refTo M k) k := by
  unfold refTo
  rw [List.range_succ, List.foldl_append]
  rfl
theorem most_bd (hM : ValidM M) {a : Nat} (ha : a ≤ M.weeks.length) : mostN M a ≤ 1536 := by rw [← worst_full hM ha]; exact worstT_le _ _ _ _ _ _
def castP (o : Nat × Nat) : Int × Int := (o.1, o.2)
theorem refTo_next (hM : ValidM M) (B : Nat) (hB : 1536 < B) : ∀ k, k ≤ M.weeks.length → refTo M (k + 1) = castP ((List.range (k + 1)).foldl (nextStep M) (0, B)) := by
  intro k
  induction k with
  | zero =>
    intro _
    have hb := most_bd hM (Nat.zero_le _)
    rw [refTo_succ, List.range_succ, List.foldl_append]
    show refStep M (0, -1) 0 = castP (nextStep M (0, B) 0)
    unfold refStep nextStep castP
    rw [if_pos (Or.inl (by decide)), if_pos (show mostN M 0 < B by omega)]
  | succ k ih =>
    intro hk
    rw [refTo_succ, ih (by omega), List.range_succ (n := k + 1), List.foldl_append]
    obtain ⟨o, ho⟩ : ∃ o, o = (List.range (k + 1)).foldl (nextStep M) (0, B) := ⟨_, rfl⟩
    rw [← ho]
    show refStep M (castP o) (k + 1) = castP (nextStep M o (k + 1))
    unfold refStep nextStep castP
    by_cases hc : mostN M (k + 1) < o.2
    · rw [if_pos hc, if_pos (Or.inr (by simp only; omega))]
    · rw [if_neg hc, if_neg (by simp only; omega)]
theorem refTo_all (hM : ValidM M) : (refTo M (M.weeks.length + 1)).1 = (nextN M : Nat) := by
  rw [refTo_next hM 1073741824 (by omega) _ (Nat.le_refl _)]
  unfold nextN castP
  rfl
theorem refTo_bd (hM : ValidM M) : ∀ k, k ≤ M.weeks.length + 1 → -1 ≤ (refTo M k).2 ∧ (refTo M k).2 ≤ 1536 ∧ 0 ≤ (refTo M k).1 ∧ (refTo M k).1 ≤ 10 := by
  intro k
  induction k with
  | zero => intro _; unfold refTo; simp
  | succ k ih =>
    intro hk
    have h := ih (by omega)
    have hb := most_bd hM (a := k) (by omega)
    have hn := hM.nw
    rw [refTo_succ]
    unfold refStep
    split
    · simp only; omega
    · exact h
end
end Go.Proofs.YtimelbcfaniifaaDoor
