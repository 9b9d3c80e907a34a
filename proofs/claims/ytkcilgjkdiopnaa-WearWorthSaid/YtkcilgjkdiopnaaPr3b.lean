/- Two copies of a box in boxes of a function's own; prices that are multiplied. -/
import Derived.Test.YtkcilgjkdiopnaaVI
namespace Go.Proofs.Ytkcilgjkdiopnaa
open Go.RowKit

theorem heap_ne6 {W : World} {B b : Nat} {u0 u1 u2 u3 u4 u5 : Value} {r : Option Obj} (h : b ≠ B) (k : W.heap[b]? = r) :
    ((((((W.setCell ⟨B, 0, none⟩ u0).setCell ⟨B, 1, none⟩ u1).setCell ⟨B, 2, none⟩ u2).setCell ⟨B, 3, none⟩ u3).setCell ⟨B, 4, none⟩ u4).setCell ⟨B, 5, none⟩ u5).heap[b]? = r :=
  heap_set_ne h (heap_set_ne h (heap_set_ne h (heap_set_ne h (heap_set_ne h (heap_set_ne h k)))))
theorem heap_ext {x y : World} {b : Nat} {o : Obj} (h : x.heap[b]? = some o) (hE : Ext x y) : y.heap[b]? = some o := (Below.block hE b (Array.getElem?_eq_some_iff.1 h).1).trans h
theorem heap_newE {w : World} {o : Obj} {n : Nat} (h : n = w.heap.size) : (w.alloc o).heap[n]? = some o := by rw [h]; exact heap_new w o

/-- a box in block b, whose lists lie elsewhere -/
def OneB (b : Nat) (W : World) (X : Wr) : Prop := ∃ p c q d, W.heap[b]? = some (.cells (wrCells X p c q d) 25) ∧ ∀ W', Fr (fun i => i = b) W W' → IntsAt W' p X.rough ∧ RecsAt W' q X.recs
/-- a box in block b, whose lists lie in blocks of their own, from B on, apart from b and bo -/
def OwnB (B bo b : Nat) (W : World) (X : Wr) : Prop := ∃ gp cp gq d xs g c,
  W.heap[b]? = some (.cells #[.int .i64 X.weeks, .int .i64 X.price, .int .i64 X.age, .int .i64 X.step, .slice (some ⟨gp, 0, none⟩) X.rough.length cp, .slice (some ⟨gq, 0, none⟩) X.recs.length d] 25) ∧
  W.ownsRow 0 3 1 (.slice (some ⟨gp, 0, none⟩) X.rough.length cp) X.rough.length (intVs X.rough) ∧ W.ownsRow 0 54 4 (.slice (some ⟨gq, 0, none⟩) X.recs.length d) X.recs.length xs ∧
  RcP 0 W X.recs.length xs X.recs g c ∧ gp ≠ gq ∧ (∀ i, i < X.recs.length → g i ≠ gp ∧ g i ≠ gq) ∧ (B ≤ gp ∧ gp ≠ bo ∧ gp ≠ b) ∧ (B ≤ gq ∧ gq ≠ bo ∧ gq ≠ b) ∧ ∀ i, i < X.recs.length → B ≤ g i ∧ g i ≠ bo ∧ g i ≠ b
theorem boxOwn_fr {M : Nat} {W W' : World} {v : Value} {X : Wr} {E : Nat → Prop} (h : BoxOwn M W v X) (hF : Fr E W W') (hE : ∀ b, M ≤ b → b < W.heap.size → ¬E b) : BoxOwn M W' v X := by
  obtain ⟨gp, cp, gq, d, xs, g, c, rfl, h1, h2, h3, h4, h5⟩ := h
  exact ⟨gp, cp, gq, d, xs, g, c, rfl, ownsRow_fr h1 hF (fun b hb => hE b (h1.lt b hb).1 (h1.lt b hb).2), ownsRow_fr h2 hF (fun b hb => hE b (h2.lt b hb).1 (h2.lt b hb).2),
    ⟨h3.fix, fun i hi hk => ⟨(h3.row i hi hk).1, ownsRow_fr (h3.row i hi hk).2 hF (fun b hb => hE b ((h3.row i hi hk).2.lt b hb).1 ((h3.row i hi hk).2.lt b hb).2)⟩, h3.inj⟩, h4, h5⟩
theorem one_mk {M b : Nat} {w' W : World} {X : Wr} {E : Nat → Prop} {p q : Option Addr} {c d : Nat} (h : BoxOwn M w' (.agg (wrCells X p c q d)) X) (hT : Fr E w' W) (hEb : E b) (hb : W.heap[b]? = some (.cells (wrCells X p c q d) 25)) (hM : ∀ i, M ≤ i → i < w'.heap.size → ¬E i) : OneB b W X := by
  refine ⟨p, c, q, d, hb, fun W' hF => ?_⟩
  have h2 := (boxOwn_fr h (hT.trans (hF.mono (fun k (e : k = b) => by rw [e]; exact hEb))) hM).wr
  obtain ⟨p', c', q', d', he, h3, h4⟩ := h2
  unfold wrCells at he
  simp only [Value.agg.injEq, Array.mk.injEq, List.cons.injEq, Value.slice.injEq] at he
  obtain ⟨-, -, -, -, ⟨rfl, -, -⟩, ⟨rfl, -, -⟩, -⟩ := he
  exact ⟨h3, h4⟩
theorem own_mk {M B bo b : Nat} {w' W : World} {X : Wr} {p q : Option Addr} {c d : Nat} (h : BoxOwn M w' (.agg (wrCells X p c q d)) X) (hT : Fr (fun i => i = bo ∨ i = b) w' W) (hb : W.heap[b]? = some (.cells (wrCells X p c q d) 25)) (hB : B ≤ M) (hM : ∀ i, M ≤ i → i < w'.heap.size → i ≠ bo ∧ i ≠ b) : OwnB B bo b W X := by
  have hn : ∀ i, M ≤ i → i < w'.heap.size → ¬(i = bo ∨ i = b) := fun i h1 h2 e => e.elim (hM i h1 h2).1 (hM i h1 h2).2
  have h' := boxOwn_fr h hT hn
  obtain ⟨gp, cp, gq, d', xs, g, c', he, h1, h2, h3, h4, h5⟩ := h
  unfold wrCells at he hb
  rw [Value.agg.inj he] at hb
  have k1 := h1.lt gp rfl
  have k2 := h2.lt gq rfl
  refine ⟨gp, cp, gq, d', xs, g, c', hb, ?_, ?_, ?_, h4, h5, ⟨by omega, hM gp k1.1 k1.2⟩, ⟨by omega, hM gq k2.1 k2.2⟩, fun i hi => ?_⟩
  · exact ownsRow_base (ownsRow_fr h1 hT (fun b hb => hn b (h1.lt b hb).1 (h1.lt b hb).2)) (Nat.zero_le _)
  · exact ownsRow_base (ownsRow_fr h2 hT (fun b hb => hn b (h2.lt b hb).1 (h2.lt b hb).2)) (Nat.zero_le _)
  · refine RcP.base ⟨h3.fix, fun i hi hk => ⟨(h3.row i hi hk).1, ownsRow_fr (h3.row i hi hk).2 hT (fun b hb => hn b ((h3.row i hi hk).2.lt b hb).1 ((h3.row i hi hk).2.lt b hb).2)⟩, h3.inj⟩ (Nat.zero_le _)
  · have k3 := (h3.row i hi hi).2.lt (g i) rfl
    exact ⟨by omega, hM _ k3.1 k3.2⟩
theorem two_fin {B bo bp M2 M3 : Nat} {F W9 w2 w3 : World} {X : Wr} {p1 q1 p2 q2 : Option Addr} {c1 d1 c2 d2 : Nat} (hF : Fr (fun i => i = bo ∨ i = bp) F W9)
    (ho : W9.heap[bo]? = some (.cells (wrCells X p1 c1 q1 d1) 25)) (hp : W9.heap[bp]? = some (.cells (wrCells X p2 c2 q2 d2) 25))
    (h2 : BoxOwn M2 w2 (.agg (wrCells X p1 c1 q1 d1)) X) (h3 : BoxOwn M3 w3 (.agg (wrCells X p2 c2 q2 d2)) X) (hE2 : Ext w2 F) (hE3 : Ext w3 F)
    (n2 : ∀ i, M2 ≤ i → i < w2.heap.size → i ≠ bo ∧ i ≠ bp) (n3 : ∀ i, M3 ≤ i → i < w3.heap.size → i ≠ bo ∧ i ≠ bp) (hB : B ≤ M3) : OneB bo W9 X ∧ OwnB B bo bp W9 X :=
  ⟨one_mk h2 ((hE2.fr _).trans hF) (Or.inl rfl) ho (fun i a b e => e.elim (n2 i a b).1 (n2 i a b).2), own_mk h3 ((hE3.fr _).trans hF) hp hB n3⟩

/-- Copy, with the value laid open -/
theorem Copy03s (v : Value) (X : Wr) (w : World) (hv : WrV w v X) (hX : ValidW X) :
    Calls Try.prog 17 #[v] w (fun e w' => ∃ p c q d, e = .returned (.agg #[.int .i64 X.weeks, .int .i64 X.price, .int .i64 X.age, .int .i64 X.step, .slice p X.rough.length c, .slice q X.recs.length d]) ∧ Ext w w' ∧ BoxOwn (w.heap.size + 3) w' (.agg (wrCells X p c q d)) X) := by
  refine (Copy03 v X w hv (by have := hX.rough; omega) (by have := hX.recs; omega) (fun r hr => ?_)).mono ?_
  · obtain ⟨i, hi, rfl⟩ := List.mem_iff_getElem.1 hr
    have := (hX.rc i hi).len; have := hX.weeks; omega
  · rintro e w' ⟨u, rfl, hE, gp, cp, gq, d, xs, g, cc, rfl, h⟩
    exact ⟨_, _, _, _, rfl, hE, gp, cp, gq, d, xs, g, cc, rfl, h⟩

/-! prices that are multiplied -/
def mulR (k : Int) (r : Rec) : Rec := { r with price := r.price * k }
def mulX (X : Wr) (k : Int) : Wr := { X with price := X.price * k, recs := X.recs.map (mulR k) }
def moreX (X : Wr) (n : Int) : Wr := { X with price := X.price + n }
/-- records of which the first j have their prices multiplied -/
def MulR (j : Nat) (k : Int) (ys : List Value) (l : List Rec) (g c : Nat → Nat) : Prop := ∀ i (h : i < l.length),
  ys[i * 4]? = some (.int .i64 l[i].worn) ∧ ys[i * 4 + 1]? = some (.int .i64 l[i].limit) ∧ ys[i * 4 + 2]? = some (.int .i64 (if i < j then l[i].price * k else l[i].price)) ∧
  ys[i * 4 + 3]? = some (.slice (some ⟨g i, 0, none⟩) l[i].plays.length (c i))
theorem MulR.step {j : Nat} {k : Int} {ys : List Value} {l : List Rec} {g c : Nat → Nat} (h : MulR j k ys l g c) (hj : j < l.length) (hl : ys.length = l.length * 4) :
    MulR (j + 1) k (ys.set (j * 4 + 2) (.int .i64 (l[j].price * k))) l g c := by
  intro i hi
  obtain ⟨h1, h2, h3, h4⟩ := h i hi
  refine ⟨by rw [List.getElem?_set_ne (by omega)]; exact h1, by rw [List.getElem?_set_ne (by omega)]; exact h2, ?_, by rw [List.getElem?_set_ne (by omega)]; exact h4⟩
  by_cases e : i = j
  · subst e
    rw [List.getElem?_set_self (by omega), if_pos (by omega)]
  · rw [List.getElem?_set_ne (by omega), h3]
    by_cases e2 : i < j
    · rw [if_pos e2, if_pos (by omega)]
    · rw [if_neg e2, if_neg (by omega)]
theorem mul_rec (X : Wr) (k : Int) (i : Nat) : recW (mulX X k) i = mulR k (recW X i) := recW_map rfl (by simp [mulR, noRec]) i
theorem mul_alike (X : Wr) (k : Int) (n : Nat) : Alike n X (mulX X k) where
  age := rfl
  step := rfl
  rough := rfl
  len := by simp [mulX]
  worn := fun i => by rw [mul_rec]; rfl
  limit := fun i => by rw [mul_rec]; rfl
  plays := fun j i _ => by unfold playsW; rw [mul_rec]; rfl
theorem more_alike (X : Wr) (k : Int) (n : Nat) : Alike n X (moreX X k) where
  age := rfl
  step := rfl
  rough := rfl
  len := rfl
  worn := fun _ => rfl
  limit := fun _ => rfl
  plays := fun _ _ _ => rfl
theorem OwnB.fr {B bo b : Nat} {W W' : World} {X : Wr} {E : Nat → Prop} (h : OwnB B bo b W X) (hF : Fr E W W') (hE : ∀ i, E i → i = bo) (hb : b ≠ bo) : OwnB B bo b W' X := by
  obtain ⟨gp, cp, gq, d, xs, g, c, h0, h1, h2, h3, h4, h5, h6, h7, h8⟩ := h
  refine ⟨gp, cp, gq, d, xs, g, c, (hF.block b (Array.getElem?_eq_some_iff.1 h0).1 (fun e => hb (hE _ e))).trans h0, ?_, ?_, ⟨h3.fix, fun i hi hk => ⟨(h3.row i hi hk).1, ?_⟩, h3.inj⟩, h4, h5, h6, h7, h8⟩
  · exact ownsRow_fr h1 hF (fun e he => by cases he; exact fun e => h6.2.1 (hE _ e))
  · exact ownsRow_fr h2 hF (fun e he => by cases he; exact fun e => h7.2.1 (hE _ e))
  · exact ownsRow_fr (h3.row i hi hk).2 hF (fun e he => by cases he; exact fun e => (h8 i hi).2.1 (hE _ e))
theorem OwnB.ext {B bo b : Nat} {W W' : World} {X : Wr} (h : OwnB B bo b W X) (hE : Ext W W') : OwnB B bo b W' X := by
  obtain ⟨gp, cp, gq, d, xs, g, c, h0, h1, h2, h3, h4, h5, h6, h7, h8⟩ := h
  exact ⟨gp, cp, gq, d, xs, g, c, heap_ext h0 hE, ownsRow_ext h1 hE, ownsRow_ext h2 hE, ⟨h3.fix, fun i hi hk => ⟨(h3.row i hi hk).1, ownsRow_ext (h3.row i hi hk).2 hE⟩, h3.inj⟩, h4, h5, h6, h7, h8⟩
/-- records whose prices were multiplied, read -/
theorem mul_wr {W : World} {X : Wr} {k : Int} {gp cp gq d : Nat} {ys : List Value} {g c : Nat → Nat} (h1 : W.ownsRow 0 3 1 (.slice (some ⟨gp, 0, none⟩) X.rough.length cp) X.rough.length (intVs X.rough))
    (h2 : W.ownsRow 0 54 4 (.slice (some ⟨gq, 0, none⟩) X.recs.length d) X.recs.length ys) (hm : MulR X.recs.length k ys X.recs g c)
    (h3 : ∀ i (h : i < X.recs.length), W.ownsRow 0 3 1 (.slice (some ⟨g i, 0, none⟩) X.recs[i].plays.length (c i)) X.recs[i].plays.length (intVs X.recs[i].plays)) :
    WrV W (.agg #[.int .i64 X.weeks, .int .i64 (X.price * k), .int .i64 X.age, .int .i64 X.step, .slice (some ⟨gp, 0, none⟩) X.rough.length cp, .slice (some ⟨gq, 0, none⟩) X.recs.length d]) (mulX X k) := by
  refine ⟨some ⟨gp, 0, none⟩, cp, some ⟨gq, 0, none⟩, d, by simp [mulX], row_ints h1, fun i hi => ?_⟩
  have hi' : i < X.recs.length := by simpa [mulX] using hi
  obtain ⟨f1, f2, f3, f4⟩ := hm i hi'
  rw [if_pos hi'] at f3
  have at4 : ∀ r, r < 4 → W.cell? ⟨gq, i * 4 + r, none⟩ = ys[i * 4 + r]? := fun r hr => by
    obtain ⟨b', c', he, hc⟩ := ownsRow_cell h2 (i * 4 + r) (by omega)
    cases he
    exact hc
  have e : (mulX X k).recs[i] = mulR k X.recs[i] := by simp [mulX]
  rw [e]
  refine ⟨gq, 0, some ⟨g i, 0, none⟩, c i, rfl, ?_, ?_, ?_, ?_, row_ints (h3 i hi')⟩
  · rw [Nat.zero_add]; exact (at4 0 (by omega)).trans f1
  · rw [Nat.zero_add]; exact (at4 1 (by omega)).trans f2
  · rw [Nat.zero_add]; exact (at4 2 (by omega)).trans f3
  · rw [Nat.zero_add]; exact (at4 3 (by omega)).trans f4

/-- the answers of Cheapest with other prices -/
theorem prices_law {X : Wr} (hX : ValidW X) {more k : Int} (hm : 0 ≤ more) (hk : 0 ≤ k) (hk2 : k ≤ 20) :
    ∃ m e a : Int, cheapV X = .tuple #[.int .i64 m, .int .i64 e] ∧ cheapV (moreX X more) = .tuple #[.int .i64 a, .int .i64 e] ∧ cheapV (mulX X k) = .tuple #[.int .i64 (k * m), .int .i64 e] ∧
      (e = 0 ∨ e = 3) ∧ 0 ≤ m ∧ m ≤ 30000 ∧ m ≤ a ∧ 0 ≤ k * m ∧ k * m ≤ 600000 := by
  have h1 := costOf_le (X := X) (Y := moreX X more) (n := X.weeks.toNat) (more_alike X more _) (by show X.price ≤ X.price + more; omega) (fun i => Int.le_refl _)
  have h2 := costOf_mul (X := X) (Y := mulX X k) (n := X.weeks.toNat) hk (mul_alike X k _) (by show X.price * k = k * X.price; exact Int.mul_comm _ _) (fun i => by rw [mul_rec]; show (recW X i).price * k = _; exact Int.mul_comm _ _)
  rw [cheap_costOf X, cheap_costOf (moreX X more), cheap_costOf (mulX X k)]
  have e1 : (moreX X more).weeks.toNat = X.weeks.toNat := rfl
  have e2 : (mulX X k).weeks.toNat = X.weeks.toNat := rfl
  rw [e1, e2, h2]
  cases hc : costOf X X.weeks.toNat with
  | none =>
    rw [hc] at h1
    rw [h1.1.2 rfl]
    exact ⟨0, 3, 0, rfl, rfl, by simp, Or.inr rfl, by omega, by omega, by omega, by simp, by simp⟩
  | some m =>
    have hb := costOf_bd hX hc
    rw [hc] at h1
    cases ha : costOf (moreX X more) X.weeks.toNat with
    | none => exact absurd (h1.1.1 ha) (by simp)
    | some a =>
      have h3 := h1.2 m rfl a ha
      refine ⟨m, 0, a, rfl, rfl, rfl, Or.inl rfl, hb.1, hb.2, h3, Int.mul_nonneg hk hb.1, ?_⟩
      have h4 := Int.mul_le_mul hk2 hb.2 hb.1 (by decide : (0 : Int) ≤ 20)
      omega

end Go.Proofs.Ytkcilgjkdiopnaa
