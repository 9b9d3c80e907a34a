/- Rows that a call makes, said of one step: and where they lie. -/
import Derived.Test.YtpgjkmjejpfkmaaC07b
import Derived.Deep.DeepAppendWide
namespace Go.Proofs.Ytpgjkmjejpfkmaa
open Go.RowKit

theorem run_append_owned_zero {P : Program} {w : World} (base : Nat) (t ty e : TypeId) (i : TypeInfo) (size : Nat) (ht : P.underlying t = some (.slice e)) (hi : P.info? e = some i)
    (v : Value) (n c : Nat) (q : Option Addr) (xs : List Value) (hown : w.ownsRow base e size v n xs) :
    (Builtin.append_ #[t, t] ty #[v, .slice q 0 c]).run P w = .ok v w := by
  cases q with
  | none => exact run_append_owned_nil base t ty e i size ht hi v n c xs hown
  | some ad =>
    rcases hown.2 with ⟨rfl, rfl⟩ | ⟨g, cap, cur, rfl, _, _, hnc, _⟩
    · simp [Builtin.append_, run_underlying ht, sizeOf, typeInfo, hi, Builtin.lenOf, Builtin.firstCells, loadCells, loadCellsFrom]
    · simp [Builtin.append_, run_underlying ht, sizeOf, typeInfo, hi, Builtin.lenOf, Builtin.firstCells, hnc, storeCells, loadCells, loadCellsFrom]

/-- something appended to an empty row without room: a new block -/
theorem wp_new_row {P : Program} {w : World} {o : Oper} {a : Act} {K : Act → World → Prop} {Q : Exit → Act → World → Prop} (s x : Operand) (t : TypeId)
    (ho : o.op = .call { callee := .builtin .append, args := #[s, x], argTypes := #[t, t] })
    (e : TypeId) (i : TypeInfo) (z : Value) (size bytes : Nat) (ht : P.underlying t = some (.slice e)) (hi : P.info? e = some i) (hz : i.zero = some z)
    (hsize : i.size = size) (hby : i.bytes = bytes) (hzs : z.cells.size = size) (hb : bytes ≤ 1000)
    (H : Addr) (hs : a.eval s = .slice (some H) 0 0)
    (ad : Addr) (m c : Nat) (news : List Value) (hx : a.eval x = .slice (some ad) m c) (hl : news.length = m * size) (hnews : ∀ j u, news[j]? = some u → w.cell? (ad.add j) = some u)
    (hm : 0 < m) (hle : m ≤ 1000)
    (h : ∀ cap w', Ext w w' → w'.ownsRow w.heap.size e size (.slice (some ⟨w.heap.size, 0, none⟩) m cap) m news → w.heap.size < w'.heap.size → K (a.put o.dst (.slice (some ⟨w.heap.size, 0, none⟩) m cap)) w') :
    Oper.wp P o a w K Q := by
  have hfit : Builtin.nextslicecap (0 + m) 0 * i.bytes ≤ 281474976710656 := by
    refine growslice_fits_wide (by omega) ?_
    rw [hby]
    have : (0 + m + (0 + m) / 4 + 192) * bytes ≤ 1442 * 1000 := Nat.mul_le_mul (by omega) hb
    omega
  have hrun := run_append_grow (P := P) w t o.type e i z ht hi hz H 0 0 [] (by simp) (by simp) ad m c news (by rw [hsize]; exact hl) hnews (by omega) (by omega) hfit
  have hcap := grownCap_ge w (0 + m) 0 e
  have hmax := grownCap_le_maxLen w (0 + m) 0 e (by simp only [maxLen]; omega)
  unfold Oper.wp
  simp only [Nat.zero_add] at hrun hcap hmax
  simp [execOp, ho, resolve, invoke, builtin, hs, hx, hrun, Result.andThen]
  refine h _ _ (Ext.alloc (Ext.drew (Ext.refl w)) _) ?_ (by rw [size_alloc]; exact Nat.lt_succ_self _)
  refine ⟨hl, Or.inr ⟨_, _, _, rfl, Nat.le_refl _, heap_new w.drew _, hcap, hmax, ?_, ?_⟩⟩
  · simp only [Array.size_append, List.size_toArray, size_zeroCells, hzs, hl]
    rw [← Nat.add_mul]
    congr 1
    omega
  · simp [← hl]

/-- a list of numbers appended to a new empty row, and where the new one lies -/
theorem wp_row_of {w : World} {o : Oper} {a : Act} {K : Act → World → Prop} {Q : Exit → Act → World → Prop} (s x : Operand)
    (ho : o.op = .call { callee := .builtin .append, args := #[s, x], argTypes := #[23, 23] })
    (H : Nat) (hs : a.eval s = .slice (some ⟨H, 0, none⟩) 0 0) (hown : w.ownsRow H 3 1 (.slice (some ⟨H, 0, none⟩) 0 0) 0 []) (hH : H < w.heap.size)
    (p : Option Addr) (l : List Int) (c : Nat) (hx : a.eval x = .slice p l.length c) (hl : IntsAt w p l) (hle : l.length ≤ 1000)
    (h : ∀ g cn w', w'.ownsRow g 3 1 (.slice (some ⟨g, 0, none⟩) l.length cn) l.length (intVs l) → Ext w w' → (g = H ∨ g = w.heap.size) → g < w'.heap.size → K (a.put o.dst (.slice (some ⟨g, 0, none⟩) l.length cn)) w') :
    Oper.wp Try.prog o a w K Q := by
  obtain ⟨i0, hi, hz0, hz1, hz2⟩ := info_parts info_a
  cases l with
  | nil =>
    have hrun := run_append_owned_zero (P := Try.prog) (w := w) H 23 o.type 3 i0 1 Try.underlying23 hi _ 0 c p [] hown
    unfold Oper.wp
    simp only [List.length_nil] at hx
    simp [execOp, ho, resolve, invoke, builtin, hs, hx, hrun, Result.andThen]
    exact h H 0 w hown (Ext.refl w) (Or.inl rfl) hH
  | cons y r =>
    obtain ⟨l, hll⟩ : ∃ l, l = y :: r := ⟨_, rfl⟩
    rw [← hll] at h hx hl hle
    have hpos : 0 < l.length := by rw [hll]; simp
    clear hll
    obtain ⟨b0, o0, rfl, -⟩ := hl.at 0 hpos
    refine wp_new_row s x 23 ho 3 i0 (.int .i64 0) 1 8 Try.underlying23 hi hz0 hz1 hz2 rfl (by decide) _ hs ⟨b0, o0, none⟩ l.length c (intVs l) hx (by simp [intVs]) ?_ hpos hle ?_
    · intro j u hj
      have hjl : j < l.length := by have := (List.getElem?_eq_some_iff.1 hj).1; rwa [intVs_len] at this
      obtain ⟨b, o', he, hc⟩ := hl.at j hjl
      cases he
      have hu : u = .int .i64 l[j] := by
        have := (List.getElem?_eq_some_iff.1 hj).2
        simp [intVs] at this
        exact this.symm
      rw [hu, ← hc]
      by_cases h0 : j = 0
      · subst h0; rfl
      · simp [Addr.add, h0]
    · intro cap w' hE ho' hlt
      exact h _ cap w' ho' hE (Or.inr rfl) hlt

def pairVs (l : List (Int × Int)) : List Value := l.flatMap fun k => [.int .i64 k.1, .int .i64 k.2]
theorem pairVs_len (l : List (Int × Int)) : (pairVs l).length = l.length * 2 := by
  induction l with
  | nil => rfl
  | cons k r ih => unfold pairVs at *; simp only [List.flatMap_cons, List.length_append, List.length_cons, List.length_nil, ih]; omega
theorem pairVs_at (l : List (Int × Int)) : ∀ i (h : i < l.length), (pairVs l)[i * 2]? = some (.int .i64 l[i].1) ∧ (pairVs l)[i * 2 + 1]? = some (.int .i64 l[i].2) := by
  induction l with
  | nil => intro i h; exact absurd h (by simp)
  | cons k r ih =>
    intro i h
    cases i with
    | zero => exact ⟨rfl, rfl⟩
    | succ j =>
      have := ih j (by simpa using h)
      have e : pairVs (k :: r) = .int .i64 k.1 :: .int .i64 k.2 :: pairVs r := rfl
      rw [e, show (j + 1) * 2 = j * 2 + 1 + 1 from by omega, show j * 2 + 1 + 1 + 1 = j * 2 + 1 + 1 + 1 from rfl]
      simpa using this
/-- a list of pairs appended to a new empty row, and where the new one lies -/
theorem wp_pairs_of {w : World} {o : Oper} {a : Act} {K : Act → World → Prop} {Q : Exit → Act → World → Prop} (s x : Operand)
    (ho : o.op = .call { callee := .builtin .append, args := #[s, x], argTypes := #[24, 24] })
    (H : Nat) (hs : a.eval s = .slice (some ⟨H, 0, none⟩) 0 0) (hown : w.ownsRow H 45 2 (.slice (some ⟨H, 0, none⟩) 0 0) 0 []) (hH : H < w.heap.size)
    (p : Option Addr) (l : List (Int × Int)) (c : Nat) (hx : a.eval x = .slice p l.length c) (hl : PairsAt w p l) (hle : l.length ≤ 1000)
    (h : ∀ g cn w', w'.ownsRow g 45 2 (.slice (some ⟨g, 0, none⟩) l.length cn) l.length (pairVs l) → Ext w w' → (g = H ∨ g = w.heap.size) → g < w'.heap.size → K (a.put o.dst (.slice (some ⟨g, 0, none⟩) l.length cn)) w') :
    Oper.wp Try.prog o a w K Q := by
  obtain ⟨i0, hi, hz0, hz1, hz2⟩ := info_parts info_c
  cases l with
  | nil =>
    have hrun := run_append_owned_zero (P := Try.prog) (w := w) H 24 o.type 45 i0 2 Try.underlying24 hi _ 0 c p [] hown
    unfold Oper.wp
    simp only [List.length_nil] at hx
    simp [execOp, ho, resolve, invoke, builtin, hs, hx, hrun, Result.andThen]
    exact h H 0 w hown (Ext.refl w) (Or.inl rfl) hH
  | cons y r =>
    obtain ⟨l, hll⟩ : ∃ l, l = y :: r := ⟨_, rfl⟩
    rw [← hll] at h hx hl hle
    have hpos : 0 < l.length := by rw [hll]; simp
    clear hll
    obtain ⟨b0, o0, rfl, -⟩ := hl 0 hpos
    refine wp_new_row s x 24 ho 45 i0 (.agg #[.int .i64 0, .int .i64 0]) 2 16 Try.underlying24 hi hz0 hz1 hz2 rfl (by decide) _ hs ⟨b0, o0, none⟩ l.length c (pairVs l) hx (pairVs_len l) ?_ hpos hle ?_
    · intro j u hj
      have hjl : j < l.length * 2 := by have := (List.getElem?_eq_some_iff.1 hj).1; rwa [pairVs_len] at this
      have hadd : ∀ n, (⟨b0, o0, none⟩ : Addr).add n = ⟨b0, o0 + n, none⟩ := by
        intro n
        by_cases h0 : n = 0
        · subst h0; rfl
        · simp [Addr.add, h0]
      obtain ⟨b, o', he, hc0, hc1⟩ := hl (j / 2) (by omega)
      cases he
      obtain ⟨e0, e1⟩ := pairVs_at l (j / 2) (by omega)
      rw [hadd]
      by_cases hpar : j % 2 = 0
      · have hje : j = j / 2 * 2 := by omega
        rw [← hje] at e0 hc0
        rw [e0] at hj
        cases hj
        exact hc0
      · have hje : j = j / 2 * 2 + 1 := by omega
        rw [← hje] at e1
        rw [e1] at hj
        cases hj
        rw [show o0 + j = o0 + j / 2 * 2 + 1 from by omega]
        exact hc1
    · intro cap w' hE ho' hlt
      exact h _ cap w' ho' hE (Or.inr rfl) hlt
end Go.Proofs.Ytpgjkmjejpfkmaa
