/- What the walk of SwapsMore needs of the plain law. -/
import Derived.Test.YtpgjkmjejpfkmaaL07j
import Derived.Test.YtpgjkmjejpfkmaaM07b
namespace Go.Proofs.Ytpgjkmjejpfkmaa
open Go.RowKit

theorem more_big {S O : Swap} (hS : Valid S) (h : MoreS S O) : Big O := by
  have h1 := hS.boxes
  have h2 := hS.stock
  have h3 := hS.earn
  have h4 := hS.keeps
  refine ⟨by rw [h.boxes]; omega, fun l hl => ?_, by rw [h.slen]; omega, by rw [h.elen]; omega, fun l hl => by have := h.row l hl; omega, by have := h.klen; omega⟩
  rw [h.boxes] at hl
  obtain ⟨i, hi, rfl⟩ := List.getElem_of_mem hl
  have := (hS.box i hi).1
  omega
theorem fair_pair {S O : Swap} (hS : Valid S) (hO : Valid O) (h : MoreS S O) : ∃ F1 F2 fe : Int, fairV S = .tuple #[.int .i64 F1, .int .i64 fe] ∧ fairV O = .tuple #[.int .i64 F2, .int .i64 fe] ∧ F1 ≤ F2 ∧ (fe = 0 ∨ fe = 3) := by
  by_cases hz : S.boxes.length = 0
  · exact ⟨0, 0, 3, by simp [fairV, bP_t hS, hz], by simp [fairV, bP_t hO, h.boxes, hz], Int.le_refl _, Or.inr rfl⟩
  · exact ⟨_, _, 0, by simp only [fairV, bP_t hS, if_true, if_neg hz], by simp only [fairV, bP_t hO, if_true, h.boxes, if_neg hz], more_fair hS hO h, Or.inl rfl⟩
theorem few_pair {S O : Swap} (hS : Valid S) (hO : Valid O) (h : MoreS S O) (g : Int) (h0 : 0 ≤ g) (h1 : g ≤ 99999) :
    (∃ n1 n2 : Int, fewV S g = .tuple #[.int .i64 n1, .int .i64 0] ∧ fewV O g = .tuple #[.int .i64 n2, .int .i64 0] ∧ 0 ≤ n2 ∧ n2 ≤ n1) ∨
    (∃ n2 j : Int, fewV S g = .tuple #[.int .i64 0, .int .i64 3] ∧ fewV O g = .tuple #[.int .i64 n2, .int .i64 j] ∧ (j = 0 ∨ j = 3)) := by
  rcases few_cases hS g h0 h1 with ⟨-, k2, k3⟩ | ⟨-, k3⟩
  · obtain ⟨m1, m2⟩ := more_few hS hO h g k2
    rcases few_cases hO g h0 h1 with ⟨-, -, l3⟩ | ⟨l1, -⟩
    · exact Or.inl ⟨_, _, k3, l3, m1, m2⟩
    · exact absurd ((few_iff (openV_ok hO) g h0 (allP (openV O))).2 l1) (by omega)
  · rcases few_cases hO g h0 h1 with ⟨-, -, l3⟩ | ⟨-, l3⟩
    · exact Or.inr ⟨_, _, k3, l3, Or.inl rfl⟩
    · exact Or.inr ⟨_, _, k3, l3, Or.inr rfl⟩

theorem set_ge (l : List Int) (i : Nat) (hi : i < l.length) (m : Int) (hm : l[i] ≤ m) (t : Nat) : l.getD t 0 ≤ (l.set i m).getD t 0 := by
  simp only [List.getD_eq_getElem?_getD, List.getElem?_set]
  by_cases h : i = t
  · subst h
    simp [hi, hm]
  · simp [h]
theorem earn_ge (E : List (List Int)) (i : Nat) (hi : i < E.length) (j : Nat) (hj : j < E[i].length) (m : Int) (hm : E[i][j] ≤ m) (t b : Nat) : (E.getD t []).getD b 0 ≤ ((E.set i (E[i].set j m)).getD t []).getD b 0 := by
  by_cases h : i = t
  · subst h
    rw [getD_of_lt E _ _ hi, getD_of_lt (E.set i (E[i].set j m)) [] i (by rw [List.length_set]; exact hi)]
    simp only [List.getElem_set_self]
    exact set_ge _ _ hj _ hm _
  · have : (E.set i (E[i].set j m)).getD t [] = E.getD t [] := by
      simp only [List.getD_eq_getElem?_getD, List.getElem?_set]
      simp [h]
    rw [this]
    exact Int.le_refl _
theorem swap_cut {w : World} {v0 v1 v2 : Value} {r : Option Addr} {d K : Nat} {S : Swap} {c : Int} (h : SwapV w (.agg #[v0, v1, v2, .slice r S.keeps.length d, .int .i64 S.changes]) S) (hK : K ≤ S.keeps.length) :
    SwapV w (.agg #[v0, v1, v2, .slice r K d, .int .i64 c]) { S with keeps := S.keeps.take K, changes := c } := by
  obtain ⟨r0, d0, r1, d1, r2, d2, r3, d3, he, i0, i1, i2, i3⟩ := h
  injection he with he
  injection he with he
  simp only [List.cons.injEq, and_true] at he
  obtain ⟨rfl, rfl, rfl, he3⟩ := he
  injection he3 with he3 _ he4
  subst he3 he4
  refine ⟨r0, d0, r1, d1, r2, d2, r, d, ?_, i0, i1, i2, ?_⟩
  · have : (S.keeps.take K).length = K := by rw [List.length_take]; omega
    rw [this]
  · intro i hi
    have hi' : i < K ∧ i < S.keeps.length := by rw [List.length_take] at hi; omega
    obtain ⟨b, o, hb, e1, e2⟩ := i3 i hi'.2
    exact ⟨b, o, hb, by rw [List.getElem_take]; exact e1, by rw [List.getElem_take]; exact e2⟩
theorem moreA {S : Swap} (hS : Valid S) (cg : Int) (K : Nat) (h0 : 0 ≤ cg) : MoreS S { S with keeps := S.keeps.take K, changes := S.changes + cg } :=
  ⟨rfl, rfl, rfl, by show S.changes ≤ S.changes + cg; omega, fun p hp => List.mem_of_mem_take hp, by show (S.keeps.take K).length ≤ _; rw [List.length_take]; omega, fun t => Int.le_refl _, fun t b => Int.le_refl _,
    fun l hl => by
      obtain ⟨i, hi, rfl⟩ := List.getElem_of_mem hl
      have := hS.row i hi
      have := hS.boxes
      show S.earn[i].length ≤ 100
      omega⟩
theorem moreB {S : Swap} (hS : Valid S) (cg : Int) (K : Nat) (h0 : 0 ≤ cg) (i : Nat) (hi : i < S.stock.length) (co : Int) (hc : 0 ≤ co) : MoreS S { S with stock := S.stock.set i (S.stock[i] + co), keeps := S.keeps.take K, changes := S.changes + cg } :=
  let h := moreA hS cg K h0
  ⟨rfl, by show (S.stock.set _ _).length = _; rw [List.length_set], rfl, h.ch, h.keeps, h.klen, fun t => set_ge _ _ hi _ (by omega) t, h.ea, h.row⟩
theorem moreC {S : Swap} (hS : Valid S) (cg : Int) (K : Nat) (h0 : 0 ≤ cg) (i : Nat) (hi : i < S.stock.length) (co : Int) (hc : 0 ≤ co) (hi2 : i < S.earn.length) (j : Nat) (hj : j < S.earn[i].length) (ea : Int) (he : 0 ≤ ea) :
    MoreS S { S with stock := S.stock.set i (S.stock[i] + co), earn := S.earn.set i (S.earn[i].set j (S.earn[i][j] + ea)), keeps := S.keeps.take K, changes := S.changes + cg } :=
  let h := moreB hS cg K h0 i hi co hc
  ⟨rfl, h.slen, by show (S.earn.set _ _).length = _; rw [List.length_set], h.ch, h.keeps, h.klen, h.st, fun t b => earn_ge _ _ hi2 _ hj _ (by omega) t b,
    fun l hl => by
      have hl' : l ∈ S.earn.set i (S.earn[i].set j (S.earn[i][j] + ea)) := hl
      have hb := hS.boxes
      rcases List.mem_or_eq_of_mem_set hl' with h1 | h1
      · obtain ⟨k, hk, rfl⟩ := List.getElem_of_mem h1
        have := hS.row k hk
        omega
      · have := hS.row i hi2
        rw [h1, List.length_set]
        omega⟩
end Go.Proofs.Ytpgjkmjejpfkmaa
