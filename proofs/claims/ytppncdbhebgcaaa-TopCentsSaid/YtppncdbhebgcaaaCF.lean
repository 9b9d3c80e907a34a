
/- Charts: meters in memory of their own. Charts: the walk of the reference's Copy. -/
import Derived.Test.YtppncdbhebgcaaaCE
import Derived.Test.YtppncdbhebgcaaaCB
import Derived.Test.YtppncdbhebgcaaaCD
import Derived.Laws.AppendOwnNone
namespace Go.Proofs.Ytppncdbhebgcaaa
open Go.RowKit

end Go.Proofs.Ytppncdbhebgcaaa
namespace Go.Proofs.Ytppncdbhebgcaaa
open Go.RowKit

theorem run_append_owned_nilC {P : Program} {w : World} (base : Nat) (t ty e : TypeId) (i : TypeInfo) (size : Nat) (ht : P.underlying t = some (.slice e)) (hi : P.info? e = some i)
    (v : Value) (n c : Nat) (xs : List Value) (hown : w.ownsRow base e size v n xs) :
    (Builtin.append_ #[t, t] ty #[v, .slice none 0 c]).run P w = .ok v w := by
  rcases hown.2 with ⟨rfl, rfl⟩ | ⟨g, cap, cur, rfl, _, _, hnc, _⟩
  · simp [Builtin.append_, run_underlying ht, sizeOf, typeInfo, hi, Builtin.lenOf, Builtin.firstCells]
  · simp [Builtin.append_, run_underlying ht, sizeOf, typeInfo, hi, Builtin.lenOf, Builtin.firstCells, hnc, storeCells]

theorem wpList_append_nilC {P : Program} {w : World} {ops : Array Oper} {rest : List Oper} {o : Oper} {a : Act} {Q : Exit → Act → World → Prop} (hgd : o.guard = none) (s x : Operand) (t : TypeId)
    (ho : o.op = .call { callee := .builtin .append, args := #[s, x], argTypes := #[t, t] })
    (base : Nat) (e : TypeId) (i : TypeInfo) (size : Nat) (ht : P.underlying t = some (.slice e)) (hi : P.info? e = some i)
    (v : Value) (n c : Nat) (xs : List Value) (hs : a.eval s = v) (hown : w.ownsRow base e size v n xs) (hx : a.eval x = .slice none 0 c)
    (h : wpList P ops Q rest (a.put o.dst v) w) : wpList P ops Q (o :: rest) a w := by
  refine wpList_plain hgd fun K hK => ?_
  have hrun := run_append_owned_nilC (P := P) (w := w) base t o.type e i size ht hi v n c xs hown
  unfold Oper.wp
  simp [execOp, ho, resolve, invoke, builtin, hs, hx, hrun, Result.andThen]
  exact hK _ _ h

/-- a list of numbers appended to a new empty row -/
theorem wpList_row_ofC {w : World} {ops : Array Oper} {rest : List Oper} {o : Oper} {a : Act} {Q : Exit → Act → World → Prop} (hgd : o.guard = none) (s x : Operand)
    (ho : o.op = .call { callee := .builtin .append, args := #[s, x], argTypes := #[26, 26] })
    (H : Nat) (hs : a.eval s = .slice (some ⟨H, 0, none⟩) 0 0) (hown : w.ownsRow H 3 1 (.slice (some ⟨H, 0, none⟩) 0 0) 0 []) (hH : H < w.heap.size)
    (p : Option Addr) (l : List Int) (c : Nat) (hx : a.eval x = .slice p l.length c) (hl : IntsAt w p l) (hle : l.length ≤ 1000)
    (h : ∀ g cn w', w'.ownsRow H 3 1 (.slice (some ⟨g, 0, none⟩) l.length cn) l.length (intVs l) → w.grownBy w' (some H) → wpList Try.prog ops Q rest (a.put o.dst (.slice (some ⟨g, 0, none⟩) l.length cn)) w') :
    wpList Try.prog ops Q (o :: rest) a w := by
  obtain ⟨i0, hi, hz0, hz1, hz2⟩ := info_parts info_a
  cases p with
  | none =>
    have hn : l = [] := by
      cases l with
      | nil => rfl
      | cons y r => obtain ⟨b, o', he, -⟩ := hl.at 0 (by simp); cases he
    subst hn
    exact wpList_append_nilC hgd s x 26 ho H 3 i0 1 Try.underlying26 hi _ 0 c [] hs hown hx (h H 0 w hown (World.grownBy.refl _ _))
  | some ad =>
    refine wpList_append_own w hgd s x 26 ho H 3 i0 (.int .i64 0) 1 8 Try.underlying26 hi hz0 hz1 hz2 rfl (by decide) _ 0 [] hs hown ad l.length c (intVs l) hx (by simp [intVs]) ?_ ?_ (by simp only [maxLen]; omega) (by omega) (by omega) ?_
    · intro j u hj
      have hjl : j < l.length := by have := (List.getElem?_eq_some_iff.1 hj).1; rwa [intVs_len] at this
      obtain ⟨b, o', he, hc⟩ := hl.at j hjl
      cases he
      have hu : u = .int .i64 l[j] := by
        have := (List.getElem?_eq_some_iff.1 hj).2
        simp [intVs] at this
        exact this.symm
      rw [hu, ← hc]
      by_cases h0 : j = 0
      · subst h0; rfl
      · simp [Addr.add, h0]
    · intro u hu
      obtain ⟨n, -, rfl⟩ := List.mem_map.1 hu
      rfl
    · intro v' w' ho' hg hnil
      rw [Nat.zero_add, List.nil_append] at ho'
      rcases ho'.2 with ⟨rfl, -⟩ | ⟨g, cap, cur, rfl, -⟩
      · exact absurd (hnil.1 rfl).1 (by simp)
      · exact h g cap w' (by simpa using ho') hg

end Go.Proofs.Ytppncdbhebgcaaa
