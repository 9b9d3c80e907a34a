/- Lists of numbers copied within a drawn region; the cells of weeks whose lists lie apart from them. -/
import Derived.Test.YtkcilgjkdiopnaaL03e
import Derived.Test.YtkcilgjkdiopnaaW3r
namespace Go.Proofs.Ytkcilgjkdiopnaa
open Go.RowKit

theorem run_append_owned_nil {P : Program} {w : World} (base : Nat) (t ty e : TypeId) (i : TypeInfo) (size : Nat) (ht : P.underlying t = some (.slice e)) (hi : P.info? e = some i)
    (v : Value) (n c : Nat) (xs : List Value) (hown : w.ownsRow base e size v n xs) :
    (Builtin.append_ #[t, t] ty #[v, .slice none 0 c]).run P w = .ok v w := by
  rcases hown.2 with ⟨rfl, rfl⟩ | ⟨g, cap, cur, rfl, _, _, hnc, _⟩
  · simp [Builtin.append_, run_underlying ht, sizeOf, typeInfo, hi, Builtin.lenOf, Builtin.firstCells]
  · simp [Builtin.append_, run_underlying ht, sizeOf, typeInfo, hi, Builtin.lenOf, Builtin.firstCells, hnc, storeCells]

/-- a list of numbers appended to a new empty row -/
theorem run_row_of {w : World} {ty : TypeId} {H : Nat} (hown : w.ownsRow H 3 1 (.slice (some ⟨H, 0, none⟩) 0 0) 0 []) (hH : H < w.heap.size) (p : Option Addr) (l : List Int) (c : Nat) (hl : IntsAt w p l) (hle : l.length ≤ 1000) :
    ∃ g cn w', (Builtin.append_ #[22, 22] ty #[.slice (some ⟨H, 0, none⟩) 0 0, .slice p l.length c]).run Try.prog w = .ok (.slice (some ⟨g, 0, none⟩) l.length cn) w' ∧
      w'.ownsRow H 3 1 (.slice (some ⟨g, 0, none⟩) l.length cn) l.length (intVs l) ∧ w.grownBy w' (some H) := by
  obtain ⟨i0, hi, hz0, hz1, hz2⟩ := info_parts info_a
  cases p with
  | none =>
    have hn : l = [] := by
      cases l with
      | nil => rfl
      | cons y r => obtain ⟨b, o', he, -⟩ := hl.at 0 (by simp); cases he
    subst hn
    exact ⟨H, 0, w, run_append_owned_nil H 22 ty 3 i0 1 Try.underlying22 hi _ 0 c [] hown, hown, World.grownBy.refl _ _⟩
  | some ad =>
    obtain ⟨v', w', hr, h2, h3, h4, -⟩ := run_append_own_at (P := Try.prog) w H 22 ty 3 i0 (.int .i64 0) 1 8 Try.underlying22 hi hz0 hz1 hz2 rfl (by decide) _ 0 [] hown ad l.length c (intVs l) (by simp [intVs]) (by
      intro j u hj
      have hjl : j < l.length := by have := (List.getElem?_eq_some_iff.1 hj).1; rwa [intVs_len] at this
      obtain ⟨b, o', he, hc⟩ := hl.at j hjl
      cases he
      have hu : u = .int .i64 l[j] := by
        have := (List.getElem?_eq_some_iff.1 hj).2
        simp [intVs] at this
        exact this.symm
      rw [hu, ← hc]
      by_cases h0 : j = 0
      · subst h0; rfl
      · simp [Addr.add, h0]) (by
      intro u hu
      obtain ⟨n, -, rfl⟩ := List.mem_map.1 hu
      rfl) (by simp only [maxLen]; omega) (by omega) (by omega)
    rw [Nat.zero_add, List.nil_append] at h2
    rcases h2.2 with ⟨rfl, -⟩ | ⟨g, cap, cur, rfl, -⟩
    · exact absurd (h4.1 rfl).1 (by simp)
    · exact ⟨g, cap, w', hr, h2, h3⟩

theorem step_row_of {w : World} {ops : Array Oper} {o : Oper} {a : Act} {K : Act → World → Prop} {Q : Exit → Act → World → Prop} {E : Prop} (hgd : o.guard = none) (s x : Operand)
    (ho : o.op = .call { callee := .builtin .append, args := #[s, x], argTypes := #[22, 22] })
    (H : Nat) (hs : a.eval s = .slice (some ⟨H, 0, none⟩) 0 0) (hown : w.ownsRow H 3 1 (.slice (some ⟨H, 0, none⟩) 0 0) 0 []) (hH : H < w.heap.size)
    (p : Option Addr) (l : List Int) (c : Nat) (hx : a.eval x = .slice p l.length c) (hl : IntsAt w p l) (hle : l.length ≤ 1000)
    (h : ∀ g cn w', w'.ownsRow H 3 1 (.slice (some ⟨g, 0, none⟩) l.length cn) l.length (intVs l) → w.grownBy w' (some H) → K (a.put o.dst (.slice (some ⟨g, 0, none⟩) l.length cn)) w') :
    if Region.wanted o (yielded ops a.tmps) = true then Oper.wp Try.prog o a w K Q else E := by
  have hw : Region.wanted o (yielded ops a.tmps) = true := by simp [Region.wanted, hgd]
  rw [if_pos hw]
  obtain ⟨g, cn, w', hr, h2, h3⟩ := run_row_of (ty := o.type) hown hH p l c hl hle
  unfold Oper.wp execOp
  simp only [ho, resolve, invoke, builtin, Sem.run_bind, Sem.run_pure, Result.andThen_ok, List.map_toArray, List.map_cons, List.map_nil, hs, hx, hr]
  exact h g cn w' h2 h3

theorem info_wk : (Try.prog.info? 61).map (fun i => (i.zero, i.size, i.bytes)) = some (some (.agg #[.int .i64 0, .slice none 0 0]), 2, 32) := by kernel_rfl
theorem info_rec : (Try.prog.info? 54).map (fun i => (i.zero, i.size, i.bytes)) = some (some (.agg #[.int .i64 0, .int .i64 0, .int .i64 0, .slice none 0 0]), 4, 48) := by kernel_rfl

/-- the cells of weeks, whose lists lie in memory from M on, apart from block r -/
def WksR (M : Nat) (W : World) (r : Option Nat) (xs : List Value) (l : List Wk) : Prop :=
  ∀ i (h : i < l.length), ∃ q c, xs[i * 2]? = some (.int .i64 l[i].needle) ∧ xs[i * 2 + 1]? = some (.slice q l[i].recs.length c) ∧ IntsAt W q l[i].recs ∧ (∀ a, q = some a → M ≤ a.block) ∧ ∀ a, q = some a → l[i].recs ≠ [] → r ≠ some a.block
theorem ints_lt {W : World} {q : Option Addr} {l : List Int} (h : IntsAt W q l) (a : Addr) (ha : q = some a) (hl : l ≠ []) : a.block < W.heap.size := by
  obtain ⟨b, o, he, hc⟩ := h.at 0 (List.length_pos_iff.2 hl)
  rw [ha] at he
  cases he
  exact lt_of_cell hc
theorem IntsAt.fr {W W' : World} {q : Option Addr} {l : List Int} {E : Nat → Prop} (h : IntsAt W q l) (hF : Fr E W W') (hE : ∀ a, q = some a → l ≠ [] → ¬E a.block) : IntsAt W' q l := by
  intro i hi
  obtain ⟨b, o, v, hp, hc, hv⟩ := h i hi
  exact ⟨b, o, v, hp, hF.cell hc (hE _ hp (by intro h0; rw [h0] at hi; simp at hi)), hv⟩
theorem WksR.fr {M : Nat} {W W' : World} {r : Option Nat} {xs : List Value} {l : List Wk} {E : Nat → Prop} (h : WksR M W r xs l) (hF : Fr E W W') (hE : ∀ k, M ≤ k → E k → r = some k) : WksR M W' r xs l := by
  intro i hi
  obtain ⟨q, c, h1, h2, h3, h4, h5⟩ := h i hi
  exact ⟨q, c, h1, h2, h3.fr hF (fun a ha hne he => h5 a ha hne (hE _ (h4 a ha) he)), h4, h5⟩
theorem WksR.step {M : Nat} {W W' : World} {r : Option Nat} {xs : List Value} {l : List Wk} {g : Nat} {x : Wk} {mp : Option Addr} {mc : Nat} (h : WksR M W r xs l) (hxs : xs.length = l.length * 2) (hg : W.grownBy W' r) (hat : r = some g ∨ g = W.heap.size)
    (hma : IntsAt W mp x.recs) (hmb : ∀ a, mp = some a → M ≤ a.block) (hmr : ∀ a, mp = some a → x.recs ≠ [] → r ≠ some a.block) : WksR M W' (some g) (xs ++ [.int .i64 x.needle, .slice mp x.recs.length mc]) (l ++ [x]) := by
  have keep : ∀ (q : Option Addr) (rs : List Int), IntsAt W q rs → (∀ a, q = some a → rs ≠ [] → r ≠ some a.block) → IntsAt W' q rs ∧ ∀ a, q = some a → rs ≠ [] → some g ≠ some a.block := by
    intro q rs hq hr
    refine ⟨fun i hi => ?_, fun a ha hne e => ?_⟩
    · obtain ⟨b, o, v, hp, hc, hv⟩ := hq i hi
      exact ⟨b, o, v, hp, hg.cell hc (fun e => hr _ hp (by intro h0; rw [h0] at hi; simp at hi) e.symm), hv⟩
    · rcases hat with h1 | h1
      · exact hr a ha hne (h1.trans e)
      · have := ints_lt hq a ha hne
        have e2 : g = a.block := Option.some.inj e
        omega
  intro i hi
  rw [List.length_append, List.length_singleton] at hi
  by_cases e : i < l.length
  · obtain ⟨q, c, h1, h2, h3, h4, h5⟩ := h i e
    obtain ⟨k1, k2⟩ := keep q _ h3 h5
    rw [List.getElem_append_left e]
    exact ⟨q, c, by rw [List.getElem?_append_left (by omega)]; exact h1, by rw [List.getElem?_append_left (by omega)]; exact h2, k1, h4, k2⟩
  · obtain rfl : i = l.length := by omega
    obtain ⟨k1, k2⟩ := keep mp _ hma hmr
    have hx : (l ++ [x])[l.length]'(by simp) = x := by simp
    rw [hx]
    refine ⟨mp, mc, ?_, ?_, k1, hmb, k2⟩
    · rw [List.getElem?_append_right (by omega), hxs]; simp
    · rw [List.getElem?_append_right (by omega), hxs]; simp

/-- a plan in memory of its own -/
def PlanOwn (M : Nat) (W : World) (v : Value) (l : List Wk) : Prop := ∃ xs, W.ownsRow M 61 2 v l.length xs ∧ WksR M W v.ownBlock xs l
theorem PlanOwn.nil (M : Nat) (W : World) : PlanOwn M W (.slice none 0 0) [] := ⟨[], World.ownsRow_nil _ _ _ _, fun i h => absurd h (by simp)⟩
theorem PlanOwn.ext {M : Nat} {W W' : World} {v : Value} {l : List Wk} (h : PlanOwn M W v l) (hE : Ext W W') : PlanOwn M W' v l := by
  obtain ⟨xs, h1, h2⟩ := h
  refine ⟨xs, ownsRow_ext h1 hE, fun i hi => ?_⟩
  obtain ⟨q, c, k1, k2, k3, k4, k5⟩ := h2 i hi
  exact ⟨q, c, k1, k2, k3.ext hE, k4, k5⟩
theorem ownsRow_cell {w : World} {B : Nat} {e : TypeId} {size : Nat} {v : Value} {n : Nat} {xs : List Value} (h : w.ownsRow B e size v n xs) (i : Nat) (hi : i < n * size) :
    ∃ b c, v = .slice (some ⟨b, 0, none⟩) n c ∧ w.cell? ⟨b, i, none⟩ = xs[i]? := by
  rcases h.2 with ⟨-, h0⟩ | ⟨g, cap, cur, rfl, -, hg, hc, -, hs, hx⟩
  · subst h0; simp at hi
  · refine ⟨g, cap, rfl, ?_⟩
    rw [cell_of_heap hg, ← hx, List.getElem?_take, if_pos hi]
    simp
theorem PlanOwn.wks {M : Nat} {W : World} {v : Value} {l : List Wk} (h : PlanOwn M W v l) : ∃ q c, v = .slice q l.length c ∧ WksAt W q l := by
  obtain ⟨xs, h1, h2⟩ := h
  have key : ∀ q c, v = .slice q l.length c → WksAt W q l := by
    intro q c hv i hi
    obtain ⟨b, c1, he, k0⟩ := ownsRow_cell h1 (i * 2) (by omega)
    obtain ⟨b', c2, he', k1⟩ := ownsRow_cell h1 (i * 2 + 1) (by omega)
    obtain ⟨qi, ci, m0, m1, m2, -, -⟩ := h2 i hi
    rw [hv] at he he'
    cases he
    cases he'
    exact ⟨b, 0, qi, ci, rfl, by rw [Nat.zero_add, k0, m0], by rw [Nat.zero_add, k1, m1], m2⟩
  rcases h1.2 with ⟨hv, h0⟩ | ⟨g, cap, cur, hv, -⟩
  · exact ⟨none, 0, by rw [hv, h0], key none 0 (by rw [hv, h0])⟩
  · exact ⟨_, cap, hv, key _ cap hv⟩
end Go.Proofs.Ytkcilgjkdiopnaa
