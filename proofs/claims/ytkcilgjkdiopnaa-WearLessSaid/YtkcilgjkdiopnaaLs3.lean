/- A box in memory of its own, all of whose numbers can be written. -/
import Derived.Test.YtkcilgjkdiopnaaE03k
import Derived.Test.YtkcilgjkdiopnaaPr3b
namespace Go.Proofs.Ytkcilgjkdiopnaa
open Go.RowKit

/-- a box in block b; its lists lie in blocks of their own, from B on -/
structure OwnE (B b : Nat) (W : World) (X : Wr) (gp cp gq d : Nat) (g c : Nat → Nat) : Prop where
  hd : W.heap[b]? = some (.cells #[.int .i64 X.weeks, .int .i64 X.price, .int .i64 X.age, .int .i64 X.step, .slice (some ⟨gp, 0, none⟩) X.rough.length cp, .slice (some ⟨gq, 0, none⟩) X.recs.length d] 25)
  rough : W.ownsRow B 3 1 (.slice (some ⟨gp, 0, none⟩) X.rough.length cp) X.rough.length (intVs X.rough)
  recs : ∃ xs, W.ownsRow B 54 4 (.slice (some ⟨gq, 0, none⟩) X.recs.length d) X.recs.length xs ∧ ∀ i (h : i < X.recs.length), xs[i * 4]? = some (.int .i64 X.recs[i].worn) ∧ xs[i * 4 + 1]? = some (.int .i64 X.recs[i].limit) ∧
    xs[i * 4 + 2]? = some (.int .i64 X.recs[i].price) ∧ xs[i * 4 + 3]? = some (.slice (some ⟨g i, 0, none⟩) X.recs[i].plays.length (c i))
  plays : ∀ i (h : i < X.recs.length), W.ownsRow B 3 1 (.slice (some ⟨g i, 0, none⟩) X.recs[i].plays.length (c i)) X.recs[i].plays.length (intVs X.recs[i].plays)
  n1 : gp ≠ gq ∧ gp ≠ b ∧ gq ≠ b
  n2 : ∀ i, i < X.recs.length → g i ≠ gp ∧ g i ≠ gq ∧ g i ≠ b
  inj : ∀ i j, i < X.recs.length → j < X.recs.length → i ≠ j → g i ≠ g j
theorem OwnE.ext {B b : Nat} {W W' : World} {X : Wr} {gp cp gq d : Nat} {g c : Nat → Nat} (h : OwnE B b W X gp cp gq d g c) (hE : Ext W W') : OwnE B b W' X gp cp gq d g c := by
  obtain ⟨xs, h1, h2⟩ := h.recs
  exact ⟨heap_ext h.hd hE, ownsRow_ext h.rough hE, ⟨xs, ownsRow_ext h1 hE, h2⟩, fun i hi => ownsRow_ext (h.plays i hi) hE, h.n1, h.n2, h.inj⟩
/-- it reads as the box -/
theorem OwnE.wr {B b : Nat} {W : World} {X : Wr} {gp cp gq d : Nat} {g c : Nat → Nat} (h : OwnE B b W X gp cp gq d g c) :
    WrV W (.agg #[.int .i64 X.weeks, .int .i64 X.price, .int .i64 X.age, .int .i64 X.step, .slice (some ⟨gp, 0, none⟩) X.rough.length cp, .slice (some ⟨gq, 0, none⟩) X.recs.length d]) X := by
  refine ⟨some ⟨gp, 0, none⟩, cp, some ⟨gq, 0, none⟩, d, rfl, row_ints h.rough, fun i hi => ?_⟩
  obtain ⟨xs, h1, h2⟩ := h.recs
  obtain ⟨f1, f2, f3, f4⟩ := h2 i hi
  have at4 : ∀ r, r < 4 → W.cell? ⟨gq, i * 4 + r, none⟩ = xs[i * 4 + r]? := fun r hr => by
    obtain ⟨b', c', he, hc⟩ := ownsRow_cell h1 (i * 4 + r) (by omega)
    cases he
    exact hc
  refine ⟨gq, 0, some ⟨g i, 0, none⟩, c i, rfl, ?_, ?_, ?_, ?_, row_ints (h.plays i hi)⟩
  · rw [Nat.zero_add]; exact (at4 0 (by omega)).trans f1
  · rw [Nat.zero_add]; exact (at4 1 (by omega)).trans f2
  · rw [Nat.zero_add]; exact (at4 2 (by omega)).trans f3
  · rw [Nat.zero_add]; exact (at4 3 (by omega)).trans f4
/-- the head is written -/
theorem OwnE.head {B b : Nat} {W W' : World} {X : Wr} {gp cp gq d : Nat} {g c : Nat → Nat} (h : OwnE B b W X gp cp gq d g c) (hF : Fr (fun i => i = b) W W') {wk pr ag st : Int}
    (hd : W'.heap[b]? = some (.cells #[.int .i64 wk, .int .i64 pr, .int .i64 ag, .int .i64 st, .slice (some ⟨gp, 0, none⟩) X.rough.length cp, .slice (some ⟨gq, 0, none⟩) X.recs.length d] 25)) :
    OwnE B b W' { X with weeks := wk, price := pr, age := ag, step := st } gp cp gq d g c := by
  obtain ⟨xs, h1, h2⟩ := h.recs
  exact ⟨hd, ownsRow_fr h.rough hF (fun e he => by cases he; exact h.n1.2.1), ⟨xs, ownsRow_fr h1 hF (fun e he => by cases he; exact h.n1.2.2), h2⟩, fun i hi => ownsRow_fr (h.plays i hi) hF (fun e he => by cases he; exact (h.n2 i hi).2.2), h.n1, h.n2, h.inj⟩
theorem OwnE.heads {B b : Nat} {W : World} {X : Wr} {gp cp gq d : Nat} {g c : Nat → Nat} (h : OwnE B b W X gp cp gq d g c) :
    W.cell? ⟨b, 0, none⟩ = some (.int .i64 X.weeks) ∧ W.cell? ⟨b, 1, none⟩ = some (.int .i64 X.price) ∧ W.cell? ⟨b, 2, none⟩ = some (.int .i64 X.age) ∧ W.cell? ⟨b, 3, none⟩ = some (.int .i64 X.step) ∧
    W.cell? ⟨b, 4, none⟩ = some (.slice (some ⟨gp, 0, none⟩) X.rough.length cp) ∧ W.cell? ⟨b, 5, none⟩ = some (.slice (some ⟨gq, 0, none⟩) X.recs.length d) ∧ ∀ i, W.frozen? ⟨b, i, none⟩ = false :=
  ⟨(cell_of_heap h.hd 0).trans rfl, (cell_of_heap h.hd 1).trans rfl, (cell_of_heap h.hd 2).trans rfl, (cell_of_heap h.hd 3).trans rfl, (cell_of_heap h.hd 4).trans rfl, (cell_of_heap h.hd 5).trans rfl, fun i => cell_frozen h.hd i⟩
/-- a number of rough is written -/
theorem intVs_set (l : List Int) (i : Nat) (n : Int) : (intVs l).set i (.int .i64 n) = intVs (l.set i n) := by simp [intVs, List.map_set]
theorem OwnE.roughAt {B b : Nat} {W : World} {X : Wr} {gp cp gq d : Nat} {g c : Nat → Nat} (h : OwnE B b W X gp cp gq d g c) (i : Nat) (n : Int) :
    OwnE B b (W.setCell ⟨gp, i, none⟩ (.int .i64 n)) { X with rough := X.rough.set i n } gp cp gq d g c := by
  obtain ⟨xs, h1, h2⟩ := h.recs
  have hF : Fr (fun k => k = gp) W (W.setCell ⟨gp, i, none⟩ (.int .i64 n)) := (Fr.refl _ _).set rfl
  refine ⟨?_, ?_, ⟨xs, ownsRow_fr h1 hF (fun e he => by cases he; exact Ne.symm h.n1.1), h2⟩, fun i hi => ownsRow_fr (h.plays i hi) hF (fun e he => by cases he; exact (h.n2 i hi).1), h.n1, h.n2, h.inj⟩
  · simp only [List.length_set]
    exact heap_set_ne (Ne.symm h.n1.2.1) h.hd
  · simp only [List.length_set]
    rw [← intVs_set]
    exact ownsRow_setV h.rough
theorem OwnE.roughCell {B b : Nat} {W : World} {X : Wr} {gp cp gq d : Nat} {g c : Nat → Nat} (h : OwnE B b W X gp cp gq d g c) {i : Nat} (hi : i < X.rough.length) :
    W.cell? ⟨gp, i, none⟩ = some (.int .i64 X.rough[i]) ∧ W.frozen? ⟨gp, i, none⟩ = false := by
  obtain ⟨b', c', he, hc⟩ := ownsRow_at h.rough i hi
  cases he
  exact ⟨by rw [hc]; simp [intVs, hi], ownsRow_frozen h.rough⟩
/-- a record is written -/
theorem OwnE.recAt {B b : Nat} {W W' : World} {X : Wr} {gp cp gq d j : Nat} {g c : Nat → Nat} {r : Rec} (h : OwnE B b W X gp cp gq d g c) (hj : j < X.recs.length) (hF : Fr (fun k => k = gq) W W') (hpl : r.plays = X.recs[j].plays) {ys : List Value}
    (ho : W'.ownsRow B 54 4 (.slice (some ⟨gq, 0, none⟩) X.recs.length d) X.recs.length ys)
    (hy : ∀ i (h : i < X.recs.length), ys[i * 4]? = some (.int .i64 (if i = j then r.worn else X.recs[i].worn)) ∧ ys[i * 4 + 1]? = some (.int .i64 (if i = j then r.limit else X.recs[i].limit)) ∧
      ys[i * 4 + 2]? = some (.int .i64 (if i = j then r.price else X.recs[i].price)) ∧ ys[i * 4 + 3]? = some (.slice (some ⟨g i, 0, none⟩) X.recs[i].plays.length (c i))) :
    OwnE B b W' { X with recs := X.recs.set j r } gp cp gq d g c := by
  have hl : (X.recs.set j r).length = X.recs.length := List.length_set
  have hget : ∀ i (hi : i < (X.recs.set j r).length), (X.recs.set j r)[i] = if i = j then r else X.recs[i]'(by rw [← hl]; exact hi) := fun i hi => by
    rw [List.getElem_set]
    by_cases e : i = j
    · rw [if_pos e, if_pos e.symm]
    · rw [if_neg e, if_neg (fun e2 => e e2.symm)]
  have hplay : ∀ i (hi : i < (X.recs.set j r).length), (X.recs.set j r)[i].plays = (X.recs[i]'(by rw [← hl]; exact hi)).plays := fun i hi => by
    rw [hget i hi]
    by_cases e : i = j
    · subst e; rw [if_pos rfl]; exact hpl
    · rw [if_neg e]
  refine ⟨?_, ownsRow_fr h.rough hF (fun e he => by cases he; exact h.n1.1), ⟨ys, by simp only [hl]; exact ho, fun i hi => ?_⟩, fun i hi => ?_, h.n1, fun i hi => h.n2 i (by rw [← hl]; exact hi), fun i k h1 h2 => h.inj i k (by rw [← hl]; exact h1) (by rw [← hl]; exact h2)⟩
  · simp only [hl]
    exact (hF.block b (Array.getElem?_eq_some_iff.1 h.hd).1 (Ne.symm h.n1.2.2)).trans h.hd
  · obtain ⟨f1, f2, f3, f4⟩ := hy i (by rw [← hl]; exact hi)
    have e1 : (X.recs.set j r)[i].worn = if i = j then r.worn else (X.recs[i]'(by rw [← hl]; exact hi)).worn := by rw [hget i hi]; split <;> rfl
    have e2 : (X.recs.set j r)[i].limit = if i = j then r.limit else (X.recs[i]'(by rw [← hl]; exact hi)).limit := by rw [hget i hi]; split <;> rfl
    have e3 : (X.recs.set j r)[i].price = if i = j then r.price else (X.recs[i]'(by rw [← hl]; exact hi)).price := by rw [hget i hi]; split <;> rfl
    show ys[i * 4]? = some (.int .i64 (X.recs.set j r)[i].worn) ∧ ys[i * 4 + 1]? = some (.int .i64 (X.recs.set j r)[i].limit) ∧ ys[i * 4 + 2]? = some (.int .i64 (X.recs.set j r)[i].price) ∧ ys[i * 4 + 3]? = some (.slice (some ⟨g i, 0, none⟩) (X.recs.set j r)[i].plays.length (c i))
    rw [e1, e2, e3, hplay i hi]
    exact ⟨f1, f2, f3, f4⟩
  · show W'.ownsRow B _ 1 (.slice (some ⟨g i, 0, none⟩) (X.recs.set j r)[i].plays.length (c i)) (X.recs.set j r)[i].plays.length (intVs (X.recs.set j r)[i].plays)
    rw [hplay i hi]
    exact ownsRow_fr (h.plays i (by rw [← hl]; exact hi)) hF (fun e he => by cases he; exact (h.n2 i (by rw [← hl]; exact hi)).2.1)
theorem OwnE.recCells {B b : Nat} {W : World} {X : Wr} {gp cp gq d : Nat} {g c : Nat → Nat} (h : OwnE B b W X gp cp gq d g c) {j : Nat} (hj : j < X.recs.length) :
    W.cell? ⟨gq, j * 4, none⟩ = some (.int .i64 X.recs[j].worn) ∧ W.cell? ⟨gq, j * 4 + 1, none⟩ = some (.int .i64 X.recs[j].limit) ∧ W.cell? ⟨gq, j * 4 + 3, none⟩ = some (.slice (some ⟨g j, 0, none⟩) X.recs[j].plays.length (c j)) ∧
    ∀ i, W.frozen? ⟨gq, i, none⟩ = false := by
  obtain ⟨xs, h1, h2⟩ := h.recs
  obtain ⟨f1, f2, f3, f4⟩ := h2 j hj
  have at4 : ∀ r, r < 4 → W.cell? ⟨gq, j * 4 + r, none⟩ = xs[j * 4 + r]? := fun r hr => by
    obtain ⟨b', c', he, hc⟩ := ownsRow_cell h1 (j * 4 + r) (by omega)
    cases he
    exact hc
  exact ⟨(at4 0 (by omega)).trans f1, (at4 1 (by omega)).trans f2, (at4 3 (by omega)).trans f4, fun i => ownsRow_frozen h1⟩
theorem OwnE.wornAt {B b : Nat} {W : World} {X : Wr} {gp cp gq d j : Nat} {g c : Nat → Nat} (h : OwnE B b W X gp cp gq d g c) (hj : j < X.recs.length) (n : Int) :
    OwnE B b (W.setCell ⟨gq, j * 4, none⟩ (.int .i64 n)) { X with recs := X.recs.set j { X.recs[j] with worn := n } } gp cp gq d g c := by
  obtain ⟨xs, h1, h2⟩ := h.recs
  refine h.recAt hj ((Fr.refl _ _).set rfl) rfl (ownsRow_setV (i := j * 4) h1) (fun i hi => ?_)
  obtain ⟨f1, f2, f3, f4⟩ := h2 i hi
  have hx := h1.1
  by_cases e : i = j
  · subst e
    simp only [if_true]
    refine ⟨List.getElem?_set_self (by omega), ?_, ?_, ?_⟩
    all_goals (rw [List.getElem?_set_ne (by omega)]; assumption)
  · simp only [if_neg e]
    refine ⟨?_, ?_, ?_, ?_⟩
    all_goals (rw [List.getElem?_set_ne (by omega)]; assumption)
theorem OwnE.limitAt {B b : Nat} {W : World} {X : Wr} {gp cp gq d j : Nat} {g c : Nat → Nat} (h : OwnE B b W X gp cp gq d g c) (hj : j < X.recs.length) (n : Int) :
    OwnE B b (W.setCell ⟨gq, j * 4 + 1, none⟩ (.int .i64 n)) { X with recs := X.recs.set j { X.recs[j] with limit := n } } gp cp gq d g c := by
  obtain ⟨xs, h1, h2⟩ := h.recs
  refine h.recAt hj ((Fr.refl _ _).set rfl) rfl (ownsRow_setV (i := j * 4 + 1) h1) (fun i hi => ?_)
  obtain ⟨f1, f2, f3, f4⟩ := h2 i hi
  have hx := h1.1
  by_cases e : i = j
  · subst e
    simp only [if_true]
    refine ⟨?_, List.getElem?_set_self (by omega), ?_, ?_⟩
    all_goals (rw [List.getElem?_set_ne (by omega)]; assumption)
  · simp only [if_neg e]
    refine ⟨?_, ?_, ?_, ?_⟩
    all_goals (rw [List.getElem?_set_ne (by omega)]; assumption)
theorem OwnE.playCell {B b : Nat} {W : World} {X : Wr} {gp cp gq d : Nat} {g c : Nat → Nat} (h : OwnE B b W X gp cp gq d g c) {j k : Nat} (hj : j < X.recs.length) (hk : k < X.recs[j].plays.length) :
    W.cell? ⟨g j, k, none⟩ = some (.int .i64 X.recs[j].plays[k]) ∧ W.frozen? ⟨g j, k, none⟩ = false := by
  obtain ⟨b', c', he, hc⟩ := ownsRow_at (h.plays j hj) k hk
  cases he
  exact ⟨by rw [hc]; simp [intVs, hk], ownsRow_frozen (h.plays j hj)⟩
theorem OwnE.playAt {B b : Nat} {W : World} {X : Wr} {gp cp gq d j : Nat} {g c : Nat → Nat} (h : OwnE B b W X gp cp gq d g c) (hj : j < X.recs.length) (k : Nat) (n : Int) :
    OwnE B b (W.setCell ⟨g j, k, none⟩ (.int .i64 n)) { X with recs := X.recs.set j { X.recs[j] with plays := X.recs[j].plays.set k n } } gp cp gq d g c := by
  obtain ⟨xs, h1, h2⟩ := h.recs
  have hF : Fr (fun i => i = g j) W (W.setCell ⟨g j, k, none⟩ (.int .i64 n)) := (Fr.refl _ _).set rfl
  have hn := h.n2 j hj
  have hl : (X.recs.set j { X.recs[j] with plays := X.recs[j].plays.set k n }).length = X.recs.length := List.length_set
  have hget : ∀ i (hi : i < (X.recs.set j { X.recs[j] with plays := X.recs[j].plays.set k n }).length), (X.recs.set j { X.recs[j] with plays := X.recs[j].plays.set k n })[i] = if i = j then { X.recs[j] with plays := X.recs[j].plays.set k n } else X.recs[i]'(by rw [← hl]; exact hi) := fun i hi => by
    rw [List.getElem_set]
    by_cases e : i = j
    · rw [if_pos e, if_pos e.symm]
    · rw [if_neg e, if_neg (fun e2 => e e2.symm)]
  refine ⟨?_, ownsRow_fr h.rough hF (fun e he => by cases he; exact Ne.symm hn.1), ⟨xs, by simp only [hl]; exact ownsRow_fr h1 hF (fun e he => by cases he; exact Ne.symm hn.2.1), fun i hi => ?_⟩, fun i hi => ?_, h.n1, fun i hi => h.n2 i (by rw [← hl]; exact hi), fun i m a1 a2 => h.inj i m (by rw [← hl]; exact a1) (by rw [← hl]; exact a2)⟩
  · simp only [hl]
    exact (hF.block b (Array.getElem?_eq_some_iff.1 h.hd).1 (Ne.symm hn.2.2)).trans h.hd
  · obtain ⟨f1, f2, f3, f4⟩ := h2 i (by rw [← hl]; exact hi)
    simp only [hget i hi]
    by_cases e : i = j
    · subst e; simp only [if_true, List.length_set]; exact ⟨f1, f2, f3, f4⟩
    · simp only [if_neg e]; exact ⟨f1, f2, f3, f4⟩
  · simp only [hget i hi]
    by_cases e : i = j
    · subst e
      simp only [if_true, List.length_set]
      rw [← intVs_set]
      exact ownsRow_setV (h.plays i hj)
    · simp only [if_neg e]
      exact ownsRow_fr (h.plays i (by rw [← hl]; exact hi)) hF (fun x he => by cases he; exact h.inj i j (by rw [← hl]; exact hi) hj e)
/-- a copy that was put into a box -/
theorem OwnE.of {M b : Nat} {w' W : World} {X : Wr} {p q : Option Addr} {cp d : Nat} (h : BoxOwn M w' (.agg (wrCells X p cp q d)) X) (hE : Ext w' W) (hb : w'.heap.size ≤ b)
    (hd : W.heap[b]? = some (.cells (wrCells X p cp q d) 25)) : ∃ gp gq g c, p = some ⟨gp, 0, none⟩ ∧ q = some ⟨gq, 0, none⟩ ∧ OwnE M b W X gp cp gq d g c := by
  obtain ⟨gp, cp', gq, d', xs, g, c, he, h1, h2, h3, h4, h5⟩ := h
  unfold wrCells at he hd
  simp only [Value.agg.injEq, Array.mk.injEq, List.cons.injEq, Value.slice.injEq] at he
  obtain ⟨-, -, -, -, ⟨rfl, -, rfl⟩, ⟨rfl, -, rfl⟩, -⟩ := he
  have k1 := (h1.lt gp rfl).2
  have k2 := (h2.lt gq rfl).2
  refine ⟨gp, gq, g, c, rfl, rfl, hd, ownsRow_ext h1 hE, ⟨xs, ownsRow_ext h2 hE, fun i hi => ?_⟩, fun i hi => ownsRow_ext (h3.row i hi hi).2 hE, ⟨h4, by omega, by omega⟩, fun i hi => ?_, ?_⟩
  · obtain ⟨f1, f2, f3, -⟩ := h3.fix i hi
    exact ⟨f1, f2, f3, (h3.row i hi hi).1⟩
  · have := ((h3.row i hi hi).2.lt (g i) rfl).2
    exact ⟨(h5 i hi).1, (h5 i hi).2, by omega⟩
  · intro i j hi hj hij
    rcases Nat.lt_or_gt_of_ne hij with h | h
    · exact h3.inj i j h hj hj
    · exact fun e => h3.inj j i h hi hi e.symm

/-! least and greatest of six -/
theorem min6 (a b c d e f : Int) : ∃ m : Int, (∀ (P : Program) (ts : Array TypeId) (t : TypeId) (w : World), (Builtin.min_ ts t #[.int .i64 a, .int .i64 b, .int .i64 c, .int .i64 d, .int .i64 e, .int .i64 f]).run P w = .ok (.int .i64 m) w) ∧
    (0 ≤ m ↔ 0 ≤ a ∧ 0 ≤ b ∧ 0 ≤ c ∧ 0 ≤ d ∧ 0 ≤ e ∧ 0 ≤ f) := by
  refine ⟨min (min (min (min (min a b) c) d) e) f, fun P ts t w => ?_, by omega⟩
  have h2 : ∀ x y : Int, (if y < x then y else x) = min x y := fun x y => by omega
  simp [Builtin.min_, Builtin.min2, h2]
theorem max6 (a b c d e f : Int) : ∃ m : Int, (∀ (P : Program) (ts : Array TypeId) (t : TypeId) (w : World), (Builtin.max_ ts t #[.int .i64 a, .int .i64 b, .int .i64 c, .int .i64 d, .int .i64 e, .int .i64 f]).run P w = .ok (.int .i64 m) w) ∧
    (m ≤ 99999 ↔ a ≤ 99999 ∧ b ≤ 99999 ∧ c ≤ 99999 ∧ d ≤ 99999 ∧ e ≤ 99999 ∧ f ≤ 99999) := by
  refine ⟨max (max (max (max (max a b) c) d) e) f, fun P ts t w => ?_, by omega⟩
  have h2 : ∀ x y : Int, (if x < y then y else x) = max x y := fun x y => by omega
  simp [Builtin.max_, Builtin.max2, h2]
end Go.Proofs.Ytkcilgjkdiopnaa
