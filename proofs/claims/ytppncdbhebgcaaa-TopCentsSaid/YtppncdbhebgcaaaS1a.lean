
/- TopCents: the plain law of the shares of a royal: they are all there together, and none is less than 0. -/
import Derived.Test.YtppncdbhebgcaaaVA
namespace Go.Proofs.Ytppncdbhebgcaaa
open Go.RowKit

/-- a side that was played, and to whom it belongs -/
structure Sd where
  plays : Int
  parts : List (Int × Int)
/-- a royal -/
structure Ry where
  pool : Int
  sides : List Sd
  owed : List Int
def pctS (l : List (Int × Int)) : Int := (l.map fun p => p.2).sum
structure PartOK (n : Nat) (l : List (Int × Int)) (k : Nat) : Prop where
  lo : 0 ≤ (l.getD k (0, 0)).1
  hi : (l.getD k (0, 0)).1 < (n : Int)
  up : k = 0 ∨ (l.getD (k - 1) (0, 0)).1 < (l.getD k (0, 0)).1
  p1 : 1 ≤ (l.getD k (0, 0)).2
  p2 : (l.getD k (0, 0)).2 ≤ 100
structure SideOK (n : Nat) (s : Sd) : Prop where
  pl : 0 ≤ s.plays ∧ s.plays ≤ 9999
  pa : ∀ k, k < s.parts.length → PartOK n s.parts k
  sm : pctS s.parts = 100
structure RyOK (R : Ry) : Prop where
  pool : 0 ≤ R.pool ∧ R.pool ≤ 9999
  nw : R.owed.length ≤ 6
  ns : R.sides.length ≤ 6
  ow : ∀ x ∈ R.owed, 0 ≤ x ∧ x ≤ 9999
  sd : ∀ s ∈ R.sides, SideOK R.owed.length s
def playsR (R : Ry) : Int := (R.sides.map fun s => s.plays).sum
def addW (q : Int) (of : List Int) (p : Int × Int) : List Int := of.set p.1.toNat (of.getD p.1.toNat 0 + q * p.2)
def sideW (of : List Int) (s : Sd) : List Int := s.parts.foldl (addW s.plays) of
def ofW (R : Ry) : List Int := R.sides.foldl sideW (List.replicate R.owed.length 0)
def allW (R : Ry) : Int := 100 * playsR R

/-- a list of so many numbers, none below 0, and what they are together -/
structure WOK (n : Nat) (t : Int) (l : List Int) : Prop where
  len : l.length = n
  pos : ∀ x ∈ l, 0 ≤ x
  sum : l.sum = t
theorem WOK.le {n : Nat} {t : Int} {l : List Int} (h : WOK n t l) : ∀ x ∈ l, x ≤ t := by
  obtain ⟨-, hp, rfl⟩ := h
  induction l with
  | nil => intro x hx; cases hx
  | cons a r ih =>
    intro x hx
    have h0 : ∀ {r : List Int}, (∀ x ∈ r, 0 ≤ x) → 0 ≤ r.sum := by
      intro r
      induction r with
      | nil => intro _; simp
      | cons b r ih => intro h; rw [List.sum_cons]; have := h b (by simp); have := ih (fun x hx => h x (by simp [hx])); omega
    rw [List.sum_cons]
    have ha := hp a (by simp)
    have hr := h0 (fun x hx => hp x (List.mem_cons_of_mem _ hx))
    rcases List.mem_cons.1 hx with rfl | hx
    · omega
    · have := ih (fun x hx => hp x (List.mem_cons_of_mem _ hx)) x hx
      omega
theorem sum_setS {l : List Int} {i : Nat} (h : i < l.length) (x : Int) : (l.set i (l.getD i 0 + x)).sum = l.sum + x := by
  induction l generalizing i with
  | nil => simp at h
  | cons a r ih =>
    cases i with
    | zero => simp only [List.set_cons_zero, List.sum_cons, List.getD_cons_zero]; omega
    | succ i =>
      simp only [List.set_cons_succ, List.sum_cons, List.getD_cons_succ]
      rw [ih (by simpa using h)]
      omega
theorem WOK.getD {n : Nat} {t : Int} {l : List Int} (h : WOK n t l) (i : Nat) : 0 ≤ l.getD i 0 := by
  by_cases hi : i < l.length
  · rw [List.getD_eq_getElem?_getD, List.getElem?_eq_getElem hi]; exact h.pos _ (List.getElem_mem hi)
  · rw [List.getD_eq_getElem?_getD, List.getElem?_eq_none (by omega)]; exact Int.le_refl _
theorem WOK.add {n : Nat} {t : Int} {l : List Int} (h : WOK n t l) {i : Nat} (hi : i < n) {x : Int} (hx : 0 ≤ x) : WOK n (t + x) (l.set i (l.getD i 0 + x)) := by
  refine ⟨by rw [List.length_set]; exact h.len, fun y hy => ?_, by rw [sum_setS (by rw [h.len]; exact hi), h.sum]⟩
  rcases List.mem_or_eq_of_mem_set hy with hy | rfl
  · exact h.pos y hy
  · have := h.getD i; omega
theorem WOK.zero (n : Nat) : WOK n 0 (List.replicate n 0) := ⟨by simp, fun x hx => by rw [(List.mem_replicate.1 hx).2]; exact Int.le_refl _, by simp⟩

theorem take_snoc {α : Type} {l : List α} {k : Nat} (h : k < l.length) : l.take (k + 1) = l.take k ++ [l[k]] := by
  rw [List.take_add_one, List.getElem?_eq_getElem h]; rfl
/-- the weights after so many parts of a side -/
theorem parts_ok {n : Nat} {t : Int} {s : Sd} {of : List Int} (h : WOK n t of) (hs : SideOK n s) : ∀ k, k ≤ s.parts.length → WOK n (t + s.plays * pctS (s.parts.take k)) ((s.parts.take k).foldl (addW s.plays) of)
  | 0, _ => by simpa [pctS] using h
  | k + 1, hk => by
    have ih := parts_ok h hs k (by omega)
    have hp := hs.pa k (by omega)
    have hg : s.parts.getD k (0, 0) = s.parts[k]'(by omega) := by rw [List.getD_eq_getElem?_getD, List.getElem?_eq_getElem (by omega)]; rfl
    obtain ⟨h1, h2, -, h3, h4⟩ := hp
    rw [hg] at h1 h2 h3 h4
    rw [take_snoc (by omega), List.foldl_append]
    have := ih.add (i := s.parts[k].1.toNat) (by omega) (x := s.plays * s.parts[k].2) (Int.mul_nonneg hs.pl.1 (by omega))
    have e : t + s.plays * pctS (s.parts.take k ++ [s.parts[k]]) = t + s.plays * pctS (s.parts.take k) + s.plays * s.parts[k].2 := by
      unfold pctS
      rw [List.map_append, List.sum_append, Int.mul_add]
      simp
      omega
    rw [e]
    exact this
theorem pct_le {n : Nat} {s : Sd} (hs : SideOK n s) : ∀ k, k ≤ s.parts.length → (k : Int) ≤ pctS (s.parts.take k) ∧ pctS (s.parts.take k) ≤ 100 * k
  | 0, _ => by simp [pctS]
  | k + 1, hk => by
    have ih := pct_le hs k (by omega)
    obtain ⟨-, -, -, h3, h4⟩ := hs.pa k (by omega)
    have hg : s.parts.getD k (0, 0) = s.parts[k]'(by omega) := by rw [List.getD_eq_getElem?_getD, List.getElem?_eq_getElem (by omega)]; rfl
    rw [hg] at h3 h4
    rw [take_snoc (by omega)]
    have e : pctS (s.parts.take k ++ [s.parts[k]]) = pctS (s.parts.take k) + s.parts[k].2 := by
      unfold pctS
      rw [List.map_append, List.sum_append]
      simp
    rw [e]
    omega
theorem side_ok {n : Nat} {t : Int} {s : Sd} {of : List Int} (h : WOK n t of) (hs : SideOK n s) : WOK n (t + 100 * s.plays) (sideW of s) := by
  have := parts_ok h hs s.parts.length (Nat.le_refl _)
  rw [List.take_length, hs.sm, Int.mul_comm] at this
  exact this
/-- the weights after so many sides -/
theorem sides_ok {R : Ry} (h : RyOK R) : ∀ k, k ≤ R.sides.length → WOK R.owed.length (((R.sides.take k).map fun s => 100 * s.plays).sum) ((R.sides.take k).foldl sideW (List.replicate R.owed.length 0))
  | 0, _ => by simpa using WOK.zero _
  | k + 1, hk => by
    have ih := sides_ok h k (by omega)
    have := side_ok ih (h.sd R.sides[k] (List.getElem_mem _))
    rw [take_snoc (by omega), List.foldl_append, List.map_append, List.sum_append]
    simpa using this
theorem all_sum (l : List Sd) : (l.map fun s => 100 * s.plays).sum = 100 * (l.map fun s => s.plays).sum := by
  induction l with
  | nil => rfl
  | cons a r ih => rw [List.map_cons, List.sum_cons, ih, List.map_cons, List.sum_cons]; omega
theorem of_ok {R : Ry} (h : RyOK R) : WOK R.owed.length (allW R) (ofW R) := by
  have := sides_ok h R.sides.length (Nat.le_refl _)
  rw [List.take_length, all_sum] at this
  exact this
theorem plays_bd {R : Ry} (h : RyOK R) : ∀ k, k ≤ R.sides.length → 0 ≤ ((R.sides.take k).map fun s => s.plays).sum ∧ ((R.sides.take k).map fun s => s.plays).sum ≤ 9999 * k
  | 0, _ => by simp
  | k + 1, hk => by
    have ih := plays_bd h k (by omega)
    have := (h.sd R.sides[k] (List.getElem_mem _)).pl
    rw [take_snoc (by omega), List.map_append, List.sum_append]
    simp only [List.map_cons, List.map_nil, List.sum_cons, List.sum_nil]
    omega
theorem plays_pos {R : Ry} (h : RyOK R) : 0 ≤ playsR R ∧ playsR R ≤ 59994 := by
  have := plays_bd h R.sides.length (Nat.le_refl _)
  rw [List.take_length] at this
  have := h.ns
  unfold playsR
  omega

/- The shares. -/
def baseS (pool all : Int) (of : List Int) : List Int := of.map fun x => pool * x / all
def leftS (pool all : Int) (of : List Int) : Int := pool - (baseS pool all of).sum
def incL (out o : List Int) : List Int := o.foldl (fun out i => out.set i.toNat (out.getD i.toNat 0 + 1)) out
def keyS (pool all : Int) (of : List Int) (i : Int) : Int := pool * of.getD i.toNat 0 % all
/-- who comes first -/
def FirstS (pool all : Int) (of : List Int) (i k : Int) : Prop := keyS pool all of k < keyS pool all of i ∨ keyS pool all of k = keyS pool all of i ∧ i < k
def idS (n : Nat) : List Int := (List.range n).map fun i : Nat => (i : Int)
def IsShares (pool all : Int) (of l : List Int) : Prop := ∃ o : List Int, o.Perm (idS of.length) ∧ o.Pairwise (FirstS pool all of) ∧ l = incL (baseS pool all of) (o.take (leftS pool all of).toNat)

theorem mem_idS {n : Nat} {x : Int} : x ∈ idS n ↔ 0 ≤ x ∧ x < (n : Int) := by
  unfold idS
  rw [List.mem_map]
  constructor
  · rintro ⟨a, ha, rfl⟩; have := List.mem_range.1 ha; omega
  · intro h; exact ⟨x.toNat, List.mem_range.2 (by omega), by omega⟩
theorem idS_len (n : Nat) : (idS n).length = n := by simp [idS]
theorem base_rest {pool all : Int} (ha : 0 < all) (hp : 0 ≤ pool) : ∀ {of : List Int}, (∀ x ∈ of, 0 ≤ x) → (∀ x ∈ baseS pool all of, 0 ≤ x) ∧ all * (baseS pool all of).sum ≤ pool * of.sum ∧ pool * of.sum ≤ all * (baseS pool all of).sum + (all - 1) * of.length := by
  intro of
  induction of with
  | nil => intro _; simp [baseS]
  | cons x r ih =>
    intro h
    obtain ⟨h1, h2, h3⟩ := ih fun y hy => h y (List.mem_cons_of_mem _ hy)
    have hx := h x List.mem_cons_self
    have e := Int.emod_add_mul_ediv (pool * x) all
    have r0 := Int.emod_nonneg (pool * x) (show all ≠ 0 by omega)
    have r1 := Int.emod_lt_of_pos (pool * x) ha
    have eb : baseS pool all (x :: r) = pool * x / all :: baseS pool all r := rfl
    rw [eb, List.sum_cons, List.sum_cons, Int.mul_add, Int.mul_add, List.length_cons]
    have el : (all - 1) * ((r.length + 1 : Nat) : Int) = (all - 1) * (r.length : Int) + (all - 1) := by
      rw [Int.natCast_add, Int.mul_add]; simp
    rw [el]
    refine ⟨fun y hy => ?_, by omega, by omega⟩
    rcases List.mem_cons.1 hy with rfl | hy
    · exact Int.ediv_nonneg (Int.mul_nonneg hp hx) (by omega)
    · exact h1 y hy
theorem left_bd {n : Nat} {pool all : Int} {of : List Int} (ha : 0 < all) (hp : 0 ≤ pool) (h : WOK n all of) : 0 ≤ leftS pool all of ∧ leftS pool all of ≤ (n : Int) ∧ WOK n (pool - leftS pool all of) (baseS pool all of) := by
  obtain ⟨h1, h2, h3⟩ := base_rest ha hp h.pos
  rw [h.sum] at h2 h3
  rw [h.len] at h3
  have hl : (baseS pool all of).length = n := by rw [← h.len]; simp [baseS]
  obtain ⟨b, hb⟩ : ∃ b, b = (baseS pool all of).sum := ⟨_, rfl⟩
  rw [← hb] at h2 h3
  have h4 : b ≤ pool := by
    refine Int.not_lt.1 fun hlt => ?_
    have := Int.mul_lt_mul_of_pos_left hlt ha
    rw [Int.mul_comm pool all] at h2
    omega
  have h5 : pool - b ≤ (n : Int) := by
    refine Int.not_lt.1 fun hlt => ?_
    have h6 : all * (n : Int) < all * (pool - b) := Int.mul_lt_mul_of_pos_left hlt ha
    rw [Int.mul_sub, Int.mul_comm all pool] at h6
    have h7 : (all - 1) * (n : Int) = all * (n : Int) - (n : Int) := by rw [Int.sub_mul]; omega
    omega
  unfold leftS
  rw [← hb]
  exact ⟨by omega, h5, hl, h1, by omega⟩
theorem inc_ok {n : Nat} {t : Int} {out : List Int} (h : WOK n t out) : ∀ {o : List Int}, (∀ x ∈ o, 0 ≤ x ∧ x < (n : Int)) → WOK n (t + o.length) (incL out o) := by
  intro o
  induction o generalizing out t with
  | nil => intro _; simpa [incL] using h
  | cons a r ih =>
    intro ho
    have ha := ho a List.mem_cons_self
    have := ih (h.add (i := a.toNat) (by omega) (x := 1) (by omega)) fun x hx => ho x (List.mem_cons_of_mem _ hx)
    rw [List.length_cons]
    have e : t + ((r.length + 1 : Nat) : Int) = t + 1 + (r.length : Int) := by omega
    rw [e]
    exact this
theorem shares_ok {n : Nat} {pool all : Int} {of l : List Int} (ha : 0 < all) (hp : 0 ≤ pool) (h : WOK n all of) (hl : IsShares pool all of l) : WOK n pool l := by
  obtain ⟨o, ho, -, rfl⟩ := hl
  obtain ⟨h1, h2, h3⟩ := left_bd ha hp h
  have hol : o.length = n := by rw [ho.length_eq, idS_len, h.len]
  have hi := inc_ok h3 (o := o.take (leftS pool all of).toNat) (fun x hx => by
    have := mem_idS.1 (ho.subset (List.mem_of_mem_take hx))
    rw [h.len] at this
    exact this)
  have e : pool - leftS pool all of + ((o.take (leftS pool all of).toNat).length : Int) = pool := by
    rw [List.length_take, hol]
    omega
  rw [e] at hi
  exact hi

/- The example. -/
def exR : Ry := ⟨100, [⟨3, [(0, 50), (1, 50)]⟩, ⟨1, [(1, 30), (2, 70)]⟩], [0, 40, 0]⟩
theorem exR_ok : RyOK exR := by
  refine ⟨by decide, by decide, by decide, by decide, fun s hs => ?_⟩
  simp only [exR, List.mem_cons, List.not_mem_nil, or_false] at hs
  rcases hs with rfl | rfl
  · refine ⟨by decide, fun k hk => ?_, by decide⟩
    have hk : k < 2 := hk
    rcases (by omega : k = 0 ∨ k = 1) with rfl | rfl <;> exact ⟨by decide, by decide, by decide, by decide, by decide⟩
  · refine ⟨by decide, fun k hk => ?_, by decide⟩
    have hk : k < 2 := hk
    rcases (by omega : k = 0 ∨ k = 1) with rfl | rfl <;> exact ⟨by decide, by decide, by decide, by decide, by decide⟩
theorem exR_of : ofW exR = [150, 180, 70] := by decide
theorem exR_all : allW exR = 400 := by decide
theorem exR_plays : playsR exR = 4 := by decide
theorem exR_shares {l : List Int} (h : IsShares 100 400 [150, 180, 70] l) : l = [38, 45, 17] := by
  obtain ⟨o, ho, hs, rfl⟩ := h
  have hl : (leftS 100 400 [150, 180, 70]).toNat = 1 := by decide
  have hb : baseS 100 400 [150, 180, 70] = [37, 45, 17] := by decide
  rw [hl, hb]
  have h3 : o.length = 3 := by rw [ho.length_eq]; rfl
  match o, h3 with
  | [a, b, c], _ =>
    have h0 : (0 : Int) ∈ [a, b, c] := ho.symm.subset (by decide)
    have ha := mem_idS.1 (ho.subset (show a ∈ [a, b, c] by simp))
    have ha3 : a < 3 := ha.2
    rcases (by omega : a = 0 ∨ a = 1 ∨ a = 2) with rfl | rfl | rfl
    · show incL [37, 45, 17] [0] = [38, 45, 17]
      decide
    · have h2 : FirstS 100 400 [150, 180, 70] 1 0 := by
        simp only [List.mem_cons, List.not_mem_nil, or_false] at h0
        rcases h0 with h0 | h0 | h0
        · omega
        · rw [h0]; exact (List.pairwise_cons.1 hs).1 b (by simp)
        · rw [h0]; exact (List.pairwise_cons.1 hs).1 c (by simp)
      exact absurd h2 (by unfold FirstS; decide)
    · have h2 : FirstS 100 400 [150, 180, 70] 2 0 := by
        simp only [List.mem_cons, List.not_mem_nil, or_false] at h0
        rcases h0 with h0 | h0 | h0
        · omega
        · rw [h0]; exact (List.pairwise_cons.1 hs).1 b (by simp)
        · rw [h0]; exact (List.pairwise_cons.1 hs).1 c (by simp)
      exact absurd h2 (by unfold FirstS; decide)
end Go.Proofs.Ytppncdbhebgcaaa
