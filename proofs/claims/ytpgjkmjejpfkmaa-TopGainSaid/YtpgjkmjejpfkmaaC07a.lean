/- Rows that a call makes: a list of lists cloned. -/
import Derived.Test.YtpgjkmjejpfkmaaL07i
import Derived.Deep.AppendLies
import Derived.Laws.AppendOwnNone
namespace Go.Proofs.Ytpgjkmjejpfkmaa
open Go.RowKit

theorem info_a : (Try.prog.info? 3).map (fun i => (i.zero, i.size, i.bytes)) = some (some (.int .i64 0), 1, 8) := by kernel_rfl
theorem info_b : (Try.prog.info? 23).map (fun i => (i.zero, i.size, i.bytes)) = some (some (.slice none 0 0), 1, 24) := by kernel_rfl
theorem info_c : (Try.prog.info? 45).map (fun i => (i.zero, i.size, i.bytes)) = some (some (.agg #[.int .i64 0, .int .i64 0]), 2, 16) := by kernel_rfl

theorem run_append_owned_nil {P : Program} {w : World} (base : Nat) (t ty e : TypeId) (i : TypeInfo) (size : Nat) (ht : P.underlying t = some (.slice e)) (hi : P.info? e = some i)
    (v : Value) (n c : Nat) (xs : List Value) (hown : w.ownsRow base e size v n xs) :
    (Builtin.append_ #[t, t] ty #[v, .slice none 0 c]).run P w = .ok v w := by
  rcases hown.2 with ⟨rfl, rfl⟩ | ⟨g, cap, cur, rfl, _, _, hnc, _⟩
  · simp [Builtin.append_, run_underlying ht, sizeOf, typeInfo, hi, Builtin.lenOf, Builtin.firstCells]
  · simp [Builtin.append_, run_underlying ht, sizeOf, typeInfo, hi, Builtin.lenOf, Builtin.firstCells, hnc, storeCells]

theorem wpList_append_nil {P : Program} {w : World} {ops : Array Oper} {rest : List Oper} {o : Oper} {a : Act} {Q : Exit → Act → World → Prop} (hgd : o.guard = none) (s x : Operand) (t : TypeId)
    (ho : o.op = .call { callee := .builtin .append, args := #[s, x], argTypes := #[t, t] })
    (base : Nat) (e : TypeId) (i : TypeInfo) (size : Nat) (ht : P.underlying t = some (.slice e)) (hi : P.info? e = some i)
    (v : Value) (n c : Nat) (xs : List Value) (hs : a.eval s = v) (hown : w.ownsRow base e size v n xs) (hx : a.eval x = .slice none 0 c)
    (h : wpList P ops Q rest (a.put o.dst v) w) : wpList P ops Q (o :: rest) a w := by
  refine wpList_plain hgd fun K hK => ?_
  have hrun := run_append_owned_nil (P := P) (w := w) base t o.type e i size ht hi v n c xs hown
  unfold Oper.wp
  simp [execOp, ho, resolve, invoke, builtin, hs, hx, hrun, Result.andThen]
  exact hK _ _ h

def intVs (l : List Int) : List Value := l.map (Value.int .i64)
theorem intVs_len (l : List Int) : (intVs l).length = l.length := by simp [intVs]

/-- a list of numbers appended to a new empty row -/
theorem wpList_row_of {w : World} {ops : Array Oper} {rest : List Oper} {o : Oper} {a : Act} {Q : Exit → Act → World → Prop} (hgd : o.guard = none) (s x : Operand)
    (ho : o.op = .call { callee := .builtin .append, args := #[s, x], argTypes := #[23, 23] })
    (H : Nat) (hs : a.eval s = .slice (some ⟨H, 0, none⟩) 0 0) (hown : w.ownsRow H 3 1 (.slice (some ⟨H, 0, none⟩) 0 0) 0 []) (hH : H < w.heap.size)
    (p : Option Addr) (l : List Int) (c : Nat) (hx : a.eval x = .slice p l.length c) (hl : IntsAt w p l) (hle : l.length ≤ 1000)
    (h : ∀ g cn w', w'.ownsRow H 3 1 (.slice (some ⟨g, 0, none⟩) l.length cn) l.length (intVs l) → w.grownBy w' (some H) → wpList Try.prog ops Q rest (a.put o.dst (.slice (some ⟨g, 0, none⟩) l.length cn)) w') :
    wpList Try.prog ops Q (o :: rest) a w := by
  obtain ⟨i0, hi, hz0, hz1, hz2⟩ := info_parts info_a
  cases p with
  | none =>
    have hn : l = [] := by
      cases l with
      | nil => rfl
      | cons y r => obtain ⟨b, o', he, -⟩ := hl.at 0 (by simp); cases he
    subst hn
    exact wpList_append_nil hgd s x 23 ho H 3 i0 1 Try.underlying23 hi _ 0 c [] hs hown hx (h H 0 w hown (World.grownBy.refl _ _))
  | some ad =>
    refine wpList_append_own w hgd s x 23 ho H 3 i0 (.int .i64 0) 1 8 Try.underlying23 hi hz0 hz1 hz2 rfl (by decide) _ 0 [] hs hown ad l.length c (intVs l) hx (by simp [intVs]) ?_ ?_ (by simp only [maxLen]; omega) (by omega) (by omega) ?_
    · intro j u hj
      have hjl : j < l.length := by have := (List.getElem?_eq_some_iff.1 hj).1; rwa [intVs_len] at this
      obtain ⟨b, o', he, hc⟩ := hl.at j hjl
      cases he
      have hu : u = .int .i64 l[j] := by
        have := (List.getElem?_eq_some_iff.1 hj).2
        simp [intVs] at this
        exact this.symm
      rw [hu, ← hc]
      by_cases h0 : j = 0
      · subst h0; rfl
      · simp [Addr.add, h0]
    · intro u hu
      obtain ⟨n, -, rfl⟩ := List.mem_map.1 hu
      rfl
    · intro v' w' ho' hg hnil
      rw [Nat.zero_add, List.nil_append] at ho'
      rcases ho'.2 with ⟨rfl, -⟩ | ⟨g, cap, cur, rfl, -⟩
      · exact absurd (hnil.1 rfl).1 (by simp)
      · exact h g cap w' (by simpa using ho') hg

/-- a list of lists that a call has laid: every row in a block of its own -/
def rowV (l : List (List Int)) (g c : Nat → Nat) (i : Nat) : Value := .slice (some ⟨g i, 0, none⟩) (l.getD i []).length (c i)
structure RowsOwn (w : World) (B : Nat) (v : Value) (l : List (List Int)) (g c : Nat → Nat) : Prop where
  out : w.ownsRow B 23 1 v l.length ((List.range l.length).map (rowV l g c))
  row : ∀ i, i < l.length → w.ownsRow B 3 1 (rowV l g c i) (l.getD i []).length (intVs (l.getD i []))
  apart : ∀ i, i < l.length → v.ownBlock ≠ some (g i)
  inj : ∀ i j, i < j → j < l.length → g i ≠ g j

theorem ownsRow_ext {w w' : World} {B : Nat} {e : TypeId} {size : Nat} {v : Value} {n : Nat} {xs : List Value} (h : w.ownsRow B e size v n xs) (hE : Ext w w') : w'.ownsRow B e size v n xs := by
  refine ⟨h.1, ?_⟩
  rcases h.2 with h0 | ⟨g, cap, cur, hv, hb, hg, hr⟩
  · exact Or.inl h0
  · exact Or.inr ⟨g, cap, cur, hv, hb, (Below.block hE g (Array.getElem?_eq_some_iff.1 hg).1).trans hg, hr⟩
theorem ownsRow_base {w : World} {B B' : Nat} {e : TypeId} {size : Nat} {v : Value} {n : Nat} {xs : List Value} (h : w.ownsRow B e size v n xs) (hB : B' ≤ B) : w.ownsRow B' e size v n xs := by
  refine ⟨h.1, ?_⟩
  rcases h.2 with h0 | ⟨g, cap, cur, hv, hb, hr⟩
  · exact Or.inl h0
  · exact Or.inr ⟨g, cap, cur, hv, Nat.le_trans hB hb, hr⟩
theorem RowsOwn.ext {w w' : World} {B : Nat} {v : Value} {l : List (List Int)} {g c : Nat → Nat} (h : RowsOwn w B v l g c) (hE : Ext w w') : RowsOwn w' B v l g c :=
  ⟨ownsRow_ext h.out hE, fun i hi => ownsRow_ext (h.row i hi) hE, h.apart, h.inj⟩
theorem ownsRow_at {w : World} {B : Nat} {e : TypeId} {v : Value} {n : Nat} {xs : List Value} (h : w.ownsRow B e 1 v n xs) (i : Nat) (hi : i < n) :
    ∃ b c, v = .slice (some ⟨b, 0, none⟩) n c ∧ w.cell? ⟨b, i, none⟩ = xs[i]? := by
  rcases h.2 with ⟨-, h0⟩ | ⟨g, cap, cur, rfl, -, hg, hc, -, hs, hx⟩
  · omega
  · refine ⟨g, cap, rfl, ?_⟩
    rw [cell_of_heap hg, ← hx, Nat.mul_one, List.getElem?_take, if_pos hi]
    simp
theorem row_ints {w : World} {B b c : Nat} {l : List Int} (h : w.ownsRow B 3 1 (.slice (some ⟨b, 0, none⟩) l.length c) l.length (intVs l)) : IntsAt w (some ⟨b, 0, none⟩) l := by
  intro i hi
  obtain ⟨b', c', he, hc⟩ := ownsRow_at h i hi
  cases he
  refine ⟨b, 0, _, rfl, ?_, rfl⟩
  rw [Nat.zero_add, hc]
  simp [intVs, hi]
theorem RowsOwn.lists {w : World} {B : Nat} {v : Value} {l : List (List Int)} {g c : Nat → Nat} (h : RowsOwn w B v l g c) : ListsV w v l := by
  have key : ∀ p cc, v = .slice p l.length cc → ListsAt w p l := by
    intro p cc hv i hi
    obtain ⟨b, c', he, hc⟩ := ownsRow_at h.out i hi
    rw [hv] at he
    cases he
    refine ⟨b, 0, rowV l g c i, rfl, ?_, some ⟨g i, 0, none⟩, c i, ?_, ?_⟩
    · rw [Nat.zero_add, hc]; simp [hi]
    · simp [rowV, hi]
    · have := h.row i hi
      rw [getD_of_lt _ _ _ hi] at this
      simp only [rowV, getD_of_lt _ _ _ hi] at this
      exact row_ints this
  rcases h.out.2 with ⟨hv, h0⟩ | ⟨b, cap, cur, hv, -⟩
  · exact ⟨none, 0, by rw [hv, h0], key none 0 (by rw [hv, h0])⟩
  · exact ⟨_, cap, hv, key _ cap hv⟩
end Go.Proofs.Ytpgjkmjejpfkmaa
