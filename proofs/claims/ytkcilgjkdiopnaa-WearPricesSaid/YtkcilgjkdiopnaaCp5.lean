/- Rows that a call makes in one step, and where they lie: numbers, records. -/
import Derived.Test.YtkcilgjkdiopnaaCp4
import Derived.Deep.DeepAppendWide
import Derived.Deep.RegionHeld3
namespace Go.Proofs.Ytkcilgjkdiopnaa
open Go.RowKit

theorem run_append_owned_zero {P : Program} {w : World} (base : Nat) (t ty e : TypeId) (i : TypeInfo) (size : Nat) (ht : P.underlying t = some (.slice e)) (hi : P.info? e = some i)
    (v : Value) (n c : Nat) (q : Option Addr) (xs : List Value) (hown : w.ownsRow base e size v n xs) :
    (Builtin.append_ #[t, t] ty #[v, .slice q 0 c]).run P w = .ok v w := by
  cases q with
  | none => exact run_append_owned_nil base t ty e i size ht hi v n c xs hown
  | some ad =>
    rcases hown.2 with ⟨rfl, rfl⟩ | ⟨g, cap, cur, rfl, _, _, hnc, _⟩
    · simp [Builtin.append_, run_underlying ht, sizeOf, typeInfo, hi, Builtin.lenOf, Builtin.firstCells, loadCells, loadCellsFrom]
    · simp [Builtin.append_, run_underlying ht, sizeOf, typeInfo, hi, Builtin.lenOf, Builtin.firstCells, hnc, storeCells, loadCells, loadCellsFrom]

/-- something appended to an empty row without room: a new block -/
theorem wp_new_row {P : Program} {w : World} {o : Oper} {a : Act} {K : Act → World → Prop} {Q : Exit → Act → World → Prop} (s x : Operand) (t : TypeId)
    (ho : o.op = .call { callee := .builtin .append, args := #[s, x], argTypes := #[t, t] })
    (e : TypeId) (i : TypeInfo) (z : Value) (size bytes : Nat) (ht : P.underlying t = some (.slice e)) (hi : P.info? e = some i) (hz : i.zero = some z)
    (hsize : i.size = size) (hby : i.bytes = bytes) (hzs : z.cells.size = size) (hb : bytes ≤ 1000)
    (H : Addr) (hs : a.eval s = .slice (some H) 0 0)
    (ad : Addr) (m c : Nat) (news : List Value) (hx : a.eval x = .slice (some ad) m c) (hl : news.length = m * size) (hnews : ∀ j u, news[j]? = some u → w.cell? (ad.add j) = some u)
    (hm : 0 < m) (hle : m ≤ 1000)
    (h : ∀ cap w', Ext w w' → w'.ownsRow w.heap.size e size (.slice (some ⟨w.heap.size, 0, none⟩) m cap) m news → w.heap.size < w'.heap.size → K (a.put o.dst (.slice (some ⟨w.heap.size, 0, none⟩) m cap)) w') :
    Oper.wp P o a w K Q := by
  have hfit : Builtin.nextslicecap (0 + m) 0 * i.bytes ≤ 281474976710656 := by
    refine growslice_fits_wide (by omega) ?_
    rw [hby]
    have : (0 + m + (0 + m) / 4 + 192) * bytes ≤ 1442 * 1000 := Nat.mul_le_mul (by omega) hb
    omega
  have hrun := run_append_grow (P := P) w t o.type e i z ht hi hz H 0 0 [] (by simp) (by simp) ad m c news (by rw [hsize]; exact hl) hnews (by omega) (by omega) hfit
  have hcap := grownCap_ge w (0 + m) 0 e
  have hmax := grownCap_le_maxLen w (0 + m) 0 e (by simp only [maxLen]; omega)
  unfold Oper.wp
  simp only [Nat.zero_add] at hrun hcap hmax
  simp [execOp, ho, resolve, invoke, builtin, hs, hx, hrun, Result.andThen]
  refine h _ _ (Ext.alloc (Ext.drew (Ext.refl w)) _) ?_ (by rw [size_alloc]; exact Nat.lt_succ_self _)
  refine ⟨hl, Or.inr ⟨_, _, _, rfl, Nat.le_refl _, heap_new w.drew _, hcap, hmax, ?_, ?_⟩⟩
  · simp only [Array.size_append, List.size_toArray, size_zeroCells, hzs, hl]
    rw [← Nat.add_mul]
    congr 1
    omega
  · simp [← hl]

/-- a list of numbers appended to a new empty row, and where the new one lies -/
theorem wp_row_of {w : World} {o : Oper} {a : Act} {K : Act → World → Prop} {Q : Exit → Act → World → Prop} (s x : Operand)
    (ho : o.op = .call { callee := .builtin .append, args := #[s, x], argTypes := #[22, 22] })
    (H : Nat) (hs : a.eval s = .slice (some ⟨H, 0, none⟩) 0 0) (hown : w.ownsRow H 3 1 (.slice (some ⟨H, 0, none⟩) 0 0) 0 []) (hH : H < w.heap.size)
    (p : Option Addr) (l : List Int) (c : Nat) (hx : a.eval x = .slice p l.length c) (hl : IntsAt w p l) (hle : l.length ≤ 1000)
    (h : ∀ g cn w', w'.ownsRow g 3 1 (.slice (some ⟨g, 0, none⟩) l.length cn) l.length (intVs l) → Ext w w' → (g = H ∨ g = w.heap.size) → g < w'.heap.size → K (a.put o.dst (.slice (some ⟨g, 0, none⟩) l.length cn)) w') :
    Oper.wp Try.prog o a w K Q := by
  obtain ⟨i0, hi, hz0, hz1, hz2⟩ := info_parts info_a
  cases l with
  | nil =>
    have hrun := run_append_owned_zero (P := Try.prog) (w := w) H 22 o.type 3 i0 1 Try.underlying22 hi _ 0 c p [] hown
    unfold Oper.wp
    simp only [List.length_nil] at hx
    simp [execOp, ho, resolve, invoke, builtin, hs, hx, hrun, Result.andThen]
    exact h H 0 w hown (Ext.refl w) (Or.inl rfl) hH
  | cons y r =>
    obtain ⟨l, hll⟩ : ∃ l, l = y :: r := ⟨_, rfl⟩
    rw [← hll] at h hx hl hle
    have hpos : 0 < l.length := by rw [hll]; simp
    clear hll
    obtain ⟨b0, o0, rfl, -⟩ := hl.at 0 hpos
    refine wp_new_row s x 22 ho 3 i0 (.int .i64 0) 1 8 Try.underlying22 hi hz0 hz1 hz2 rfl (by decide) _ hs ⟨b0, o0, none⟩ l.length c (intVs l) hx (by simp [intVs]) ?_ hpos hle ?_
    · intro j u hj
      have hjl : j < l.length := by have := (List.getElem?_eq_some_iff.1 hj).1; rwa [intVs_len] at this
      obtain ⟨b, o', he, hc⟩ := hl.at j hjl
      cases he
      have hu : u = .int .i64 l[j] := by
        have := (List.getElem?_eq_some_iff.1 hj).2
        simp [intVs] at this
        exact this.symm
      rw [hu, ← hc]
      by_cases h0 : j = 0
      · subst h0; rfl
      · simp [Addr.add, h0]
    · intro cap w' hE ho' hlt
      exact h _ cap w' ho' hE (Or.inr rfl) hlt


theorem step_row_e {ops : Array Oper} {E : Prop} {w : World} {o : Oper} {a : Act} {K : Act → World → Prop} {Q : Exit → Act → World → Prop} (hgd : o.guard = none) (s x : Operand)
    (ho : o.op = .call { callee := .builtin .append, args := #[s, x], argTypes := #[22, 22] })
    (H : Nat) (hs : a.eval s = .slice (some ⟨H, 0, none⟩) 0 0) (p : Option Addr) (l : List Int) (c : Nat) (hx : a.eval x = .slice p l.length c)
    (hown : w.ownsRow H 3 1 (.slice (some ⟨H, 0, none⟩) 0 0) 0 [])
    (hl : IntsAt w p l) (hle : l.length ≤ 1000)
    (h : ∀ g cn w', w'.ownsRow g 3 1 (.slice (some ⟨g, 0, none⟩) l.length cn) l.length (intVs l) → Ext w w' → (g = H ∨ g = w.heap.size) → g < w'.heap.size → K (a.put o.dst (.slice (some ⟨g, 0, none⟩) l.length cn)) w') :
    if Region.wanted o (yielded ops a.tmps) = true then Oper.wp Try.prog o a w K Q else E := by
  have hw : Region.wanted o (yielded ops a.tmps) = true := by simp [Region.wanted, hgd]
  rw [if_pos hw]
  exact wp_row_of s x ho H hs hown (hown.lt H rfl).2 p l c hx hl hle h

/-- the cells of records -/
def RcAt (w : World) (xs : List Value) (l : List Rec) : Prop :=
  ∀ i (h : i < l.length), xs[i * 4]? = some (.int .i64 l[i].worn) ∧ xs[i * 4 + 1]? = some (.int .i64 l[i].limit) ∧ xs[i * 4 + 2]? = some (.int .i64 l[i].price) ∧ ∃ q c, xs[i * 4 + 3]? = some (.slice q l[i].plays.length c) ∧ IntsAt w q l[i].plays
theorem recs_news {w : World} {b o : Nat} {l : List Rec} (h : RecsAt w (some ⟨b, o, none⟩) l) : ∃ xs : List Value, xs.length = l.length * 4 ∧ (∀ j u, xs[j]? = some u → w.cell? ((⟨b, o, none⟩ : Addr).add j) = some u) ∧ RcAt w xs l := by
  have hadd : ∀ n, (⟨b, o, none⟩ : Addr).add n = ⟨b, o + n, none⟩ := by
    intro n
    by_cases h0 : n = 0
    · subst h0; rfl
    · simp [Addr.add, h0]
  obtain ⟨xs, hxs⟩ : ∃ xs, xs = (List.range (l.length * 4)).map (fun j => (w.cell? ⟨b, o + j, none⟩).getD undef) := ⟨_, rfl⟩
  have hlen : xs.length = l.length * 4 := by rw [hxs]; simp
  have key : ∀ j u, j < l.length * 4 → w.cell? ⟨b, o + j, none⟩ = some u → xs[j]? = some u := by
    intro j u hj hu
    rw [hxs, List.getElem?_map, List.getElem?_range hj]
    simp [hu]
  have each : ∀ i (hi : i < l.length), w.cell? ⟨b, o + i * 4, none⟩ = some (.int .i64 l[i].worn) ∧ w.cell? ⟨b, o + i * 4 + 1, none⟩ = some (.int .i64 l[i].limit) ∧ w.cell? ⟨b, o + i * 4 + 2, none⟩ = some (.int .i64 l[i].price) ∧ ∃ q c, w.cell? ⟨b, o + i * 4 + 3, none⟩ = some (.slice q l[i].plays.length c) ∧ IntsAt w q l[i].plays := by
    intro i hi
    obtain ⟨b', o', q, c, he, h1, h2, h3, h4, h5⟩ := h i hi
    cases he
    exact ⟨h1, h2, h3, q, c, h4, h5⟩
  refine ⟨xs, hlen, ?_, ?_⟩
  · intro j u hj
    have hjl : j < l.length * 4 := by have := (List.getElem?_eq_some_iff.1 hj).1; omega
    have hs : ∃ v, w.cell? ⟨b, o + j, none⟩ = some v := by
      obtain ⟨h1, h2, h3, q, c, h4, -⟩ := each (j / 4) (by omega)
      have hm : j % 4 = 0 ∨ j % 4 = 1 ∨ j % 4 = 2 ∨ j % 4 = 3 := by omega
      rcases hm with hm | hm | hm | hm
      · exact ⟨_, by rw [show o + j = o + j / 4 * 4 from by omega]; exact h1⟩
      · exact ⟨_, by rw [show o + j = o + j / 4 * 4 + 1 from by omega]; exact h2⟩
      · exact ⟨_, by rw [show o + j = o + j / 4 * 4 + 2 from by omega]; exact h3⟩
      · exact ⟨_, by rw [show o + j = o + j / 4 * 4 + 3 from by omega]; exact h4⟩
    obtain ⟨v, hv⟩ := hs
    rw [key j v hjl hv] at hj
    cases hj
    rw [hadd, hv]
  · intro i hi
    obtain ⟨h1, h2, h3, q, c, h4, h5⟩ := each i hi
    exact ⟨key _ _ (by omega) h1, key _ _ (by omega) (by rw [← Nat.add_assoc]; exact h2), key _ _ (by omega) (by rw [← Nat.add_assoc]; exact h3), q, c, key _ _ (by omega) (by rw [← Nat.add_assoc]; exact h4), h5⟩

/-- records appended to a new empty row -/
theorem step_recs_e {ops : Array Oper} {E : Prop} {w : World} {o : Oper} {a : Act} {K : Act → World → Prop} {Q : Exit → Act → World → Prop} (hgd : o.guard = none) (s x : Operand)
    (ho : o.op = .call { callee := .builtin .append, args := #[s, x], argTypes := #[23, 23] })
    (H : Nat) (hs : a.eval s = .slice (some ⟨H, 0, none⟩) 0 0) (p : Option Addr) (l : List Rec) (c : Nat) (hx : a.eval x = .slice p l.length c)
    (hown : w.ownsRow H 54 4 (.slice (some ⟨H, 0, none⟩) 0 0) 0 [])
    (hl : RecsAt w p l) (hle : l.length ≤ 1000)
    (h : ∀ g cn w' xs, w'.ownsRow g 54 4 (.slice (some ⟨g, 0, none⟩) l.length cn) l.length xs → RcAt w xs l → Ext w w' → (g = H ∨ g = w.heap.size) → g < w'.heap.size → K (a.put o.dst (.slice (some ⟨g, 0, none⟩) l.length cn)) w') :
    if Region.wanted o (yielded ops a.tmps) = true then Oper.wp Try.prog o a w K Q else E := by
  have hw : Region.wanted o (yielded ops a.tmps) = true := by simp [Region.wanted, hgd]
  rw [if_pos hw]
  have hH : H < w.heap.size := (hown.lt H rfl).2
  obtain ⟨i0, hi, hz0, hz1, hz2⟩ := info_parts info_rec
  cases l with
  | nil =>
    have hrun := run_append_owned_zero (P := Try.prog) (w := w) H 23 o.type 54 i0 4 Try.underlying23 hi _ 0 c p [] hown
    unfold Oper.wp
    simp only [List.length_nil] at hx
    simp [execOp, ho, resolve, invoke, builtin, hs, hx, hrun, Result.andThen]
    exact h H 0 w [] hown (fun i h => absurd h (by simp)) (Ext.refl w) (Or.inl rfl) hH
  | cons y r =>
    obtain ⟨l, hll⟩ : ∃ l, l = y :: r := ⟨_, rfl⟩
    rw [← hll] at h hx hl hle
    have hpos : 0 < l.length := by rw [hll]; simp
    clear hll
    obtain ⟨b0, o0, -, -, rfl, -⟩ := hl 0 hpos
    obtain ⟨xs, hxl, hxc, hrc⟩ := recs_news hl
    refine wp_new_row s x 23 ho 54 i0 _ 4 48 Try.underlying23 hi hz0 hz1 hz2 rfl (by decide) _ hs ⟨b0, o0, none⟩ l.length c xs hx hxl hxc hpos hle ?_
    intro cap w' hE ho' hlt
    exact h _ cap w' xs ho' hrc hE (Or.inr rfl) hlt
end Go.Proofs.Ytkcilgjkdiopnaa
