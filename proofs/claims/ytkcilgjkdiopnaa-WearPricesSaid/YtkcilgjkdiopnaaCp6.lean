/- The walk of Copy, the box. -/
import Derived.Test.YtkcilgjkdiopnaaCp5
namespace Go.Proofs.Ytkcilgjkdiopnaa
open Go.RowKit

def Stp (a b : World) : Prop := Ext a b
theorem Stp.out {a b : World} (h : Stp a b) : Ext a b := h
theorem Stp.mk {a b : World} (h : Ext a b) : Stp a b := h
/-- the blocks below B are as they were -/
structure Bel (a : World) (B : Nat) (x : World) : Prop where
  le : B ≤ a.heap.size
  be : Below B a x
theorem Bel.refl {a : World} {B : Nat} (h : B ≤ a.heap.size) : Bel a B a := ⟨h, Below.refl _ _⟩
theorem Bel.alloc {a x : World} {B : Nat} (h : Bel a B x) (o : Obj) : Bel a B (x.alloc o) := ⟨h.le, h.be.alloc (Nat.le_trans h.le h.be.size) o⟩
theorem Bel.drew {a x : World} {B : Nat} (h : Bel a B x) : Bel a B x.drew := ⟨h.le, h.be.drew⟩
theorem Bel.step {a x y : World} {B : Nat} (h : Bel a B x) (k : Stp x y) : Bel a B y := ⟨h.le, h.be.trans (Below.mono k.out (Nat.le_trans h.le h.be.size))⟩
theorem Bel.set {a x : World} {B c o : Nat} {u : Value} (h : Bel a B x) (hc : B ≤ c) : Bel a B (x.setCell ⟨c, o, none⟩ u) := ⟨h.le, h.be.setCell (p := ⟨c, o, none⟩) hc u⟩
theorem Bel.ext {w a x : World} {B : Nat} (h : Bel a B x) (hE : Ext w a) (hB : w.heap.size ≤ B) : Ext w x := Below.trans hE (h.be.mono hB)
theorem Bel.cell {a x : World} {B b o : Nat} {v : Value} (h : Bel a B x) (hb : b < B) (hc : a.cell? ⟨b, o, none⟩ = some v) : x.cell? ⟨b, o, none⟩ = some v := (Below.cell h.be (p := ⟨b, o, none⟩) hb).trans hc
theorem size_drew (w : World) : w.drew.heap.size = w.heap.size := rfl
theorem ownsRow_step {x y : World} {B : Nat} {e : TypeId} {size : Nat} {v : Value} {n : Nat} {xs : List Value} (h : x.ownsRow B e size v n xs) (k : Stp x y) : y.ownsRow B e size v n xs := ownsRow_ext h k.out
theorem own_made2 (w : World) (A : Obj) (t : TypeId) (size : Nat) : ((w.alloc A).alloc (.cells #[] t)).ownsRow (w.heap.size + 1) t size (.slice (some ⟨w.heap.size + 1, 0, none⟩) 0 0) 0 [] := by
  have := World.ownsRow_made (w.alloc A) #[] 0 (Nat.le_refl _) (by decide) (by simp : (#[] : Array Value).size = 0 * size) (e := t)
  rwa [size_alloc] at this

/-- records in cells: the plays of the first k of them lie in rows of their own -/
structure RcP (M : Nat) (W : World) (k : Nat) (xs : List Value) (l : List Rec) (g c : Nat → Nat) : Prop where
  fix : ∀ i (h : i < l.length), xs[i * 4]? = some (.int .i64 l[i].worn) ∧ xs[i * 4 + 1]? = some (.int .i64 l[i].limit) ∧ xs[i * 4 + 2]? = some (.int .i64 l[i].price) ∧ ∃ u, xs[i * 4 + 3]? = some u
  row : ∀ i (h : i < l.length), i < k → xs[i * 4 + 3]? = some (.slice (some ⟨g i, 0, none⟩) l[i].plays.length (c i)) ∧ W.ownsRow M 3 1 (.slice (some ⟨g i, 0, none⟩) l[i].plays.length (c i)) l[i].plays.length (intVs l[i].plays)
  inj : ∀ i j, i < j → j < k → j < l.length → g i ≠ g j
def updN (f : Nat → Nat) (k s : Nat) : Nat → Nat := fun j => if j = k then s else f j
theorem RcP.fr {M k : Nat} {W W' : World} {xs : List Value} {l : List Rec} {g c : Nat → Nat} {E : Nat → Prop} (h : RcP M W k xs l g c) (hF : Fr E W W') (hE : ∀ b, M ≤ b → ¬E b) : RcP M W' k xs l g c :=
  ⟨h.fix, fun i hi hk => ⟨(h.row i hi hk).1, ownsRow_fr (h.row i hi hk).2 hF (fun b hb => hE b ((h.row i hi hk).2.lt b hb).1)⟩, h.inj⟩
theorem RcP.base {M M' k : Nat} {W : World} {xs : List Value} {l : List Rec} {g c : Nat → Nat} (h : RcP M W k xs l g c) (hM : M' ≤ M) : RcP M' W k xs l g c :=
  ⟨h.fix, fun i hi hk => ⟨(h.row i hi hk).1, ownsRow_base (h.row i hi hk).2 hM⟩, h.inj⟩
theorem RcP.step {M k gq o g1 c1 : Nat} {W W9 : World} {xs : List Value} {l : List Rec} {g c : Nat → Nat} (h : RcP M W k xs l g c) (hk : k < l.length) (hxs : xs.length = l.length * 4) (hE : Ext W W9) (ho : o = k * 4 + 3) (hq : gq < M)
    (hown : W9.ownsRow M 3 1 (.slice (some ⟨g1, 0, none⟩) l[k].plays.length c1) l[k].plays.length (intVs l[k].plays)) (hg : W.heap.size ≤ g1) :
    RcP M (W9.setCell ⟨gq, o, none⟩ (.slice (some ⟨g1, 0, none⟩) l[k].plays.length c1)) (k + 1) (xs.set o (.slice (some ⟨g1, 0, none⟩) l[k].plays.length c1)) l (updN g k g1) (updN c k c1) := by
  subst ho
  have hFs : Fr (fun b => b = gq) W9 (W9.setCell ⟨gq, k * 4 + 3, none⟩ (.slice (some ⟨g1, 0, none⟩) l[k].plays.length c1)) := (Fr.refl _ _).set rfl
  have hlt : ∀ i, i < k → g i < W.heap.size := fun i hi => ((h.row i (by omega) hi).2.lt (g i) rfl).2
  refine ⟨fun i hi => ?_, fun i hi hik => ?_, fun i j hij hj hjl => ?_⟩
  · obtain ⟨h1, h2, h3, u, h4⟩ := h.fix i hi
    refine ⟨by rw [List.getElem?_set_ne (by omega)]; exact h1, by rw [List.getElem?_set_ne (by omega)]; exact h2, by rw [List.getElem?_set_ne (by omega)]; exact h3, ?_⟩
    by_cases e : i = k
    · subst e; exact ⟨_, by rw [List.getElem?_set_self (by omega)]⟩
    · exact ⟨u, by rw [List.getElem?_set_ne (by omega)]; exact h4⟩
  · by_cases e : i = k
    · subst e
      unfold updN
      rw [if_pos rfl, if_pos rfl]
      exact ⟨by rw [List.getElem?_set_self (by omega)], ownsRow_fr hown hFs (fun b hb e2 => by have := (hown.lt b hb).1; omega)⟩
    · obtain ⟨k1, k2⟩ := h.row i hi (by omega)
      unfold updN
      rw [if_neg e, if_neg e]
      exact ⟨by rw [List.getElem?_set_ne (by omega)]; exact k1, ownsRow_fr (ownsRow_ext k2 hE) hFs (fun b hb e2 => by have := (k2.lt b hb).1; omega)⟩
  · unfold updN
    rw [if_neg (by omega : ¬i = k)]
    by_cases e : j = k
    · rw [if_pos e]; have := hlt i (by omega); omega
    · rw [if_neg e]; exact h.inj i j hij (by omega) hjl

/-- a box in memory of its own -/
def BoxOwn (M : Nat) (W : World) (v : Value) (X : Wr) : Prop := ∃ gp cp gq d xs g c,
  v = .agg #[.int .i64 X.weeks, .int .i64 X.price, .int .i64 X.age, .int .i64 X.step, .slice (some ⟨gp, 0, none⟩) X.rough.length cp, .slice (some ⟨gq, 0, none⟩) X.recs.length d] ∧
  W.ownsRow M 3 1 (.slice (some ⟨gp, 0, none⟩) X.rough.length cp) X.rough.length (intVs X.rough) ∧ W.ownsRow M 54 4 (.slice (some ⟨gq, 0, none⟩) X.recs.length d) X.recs.length xs ∧
  RcP M W X.recs.length xs X.recs g c ∧ gp ≠ gq ∧ ∀ i, i < X.recs.length → g i ≠ gp ∧ g i ≠ gq
theorem BoxOwn.wr {M : Nat} {W : World} {v : Value} {X : Wr} (h : BoxOwn M W v X) : WrV W v X := by
  obtain ⟨gp, cp, gq, d, xs, g, c, rfl, h1, h2, h3, -, -⟩ := h
  refine ⟨_, _, _, _, rfl, row_ints h1, fun i hi => ?_⟩
  obtain ⟨f1, f2, f3, -⟩ := h3.fix i hi
  obtain ⟨f4, f5⟩ := h3.row i hi hi
  have at4 : ∀ r, r < 4 → W.cell? ⟨gq, i * 4 + r, none⟩ = xs[i * 4 + r]? := fun r hr => by
    obtain ⟨b, c', he, hc⟩ := ownsRow_cell h2 (i * 4 + r) (by omega)
    cases he
    exact hc
  refine ⟨gq, 0, some ⟨g i, 0, none⟩, c i, rfl, ?_, ?_, ?_, ?_, row_ints f5⟩
  · rw [Nat.zero_add, ← f1]; exact at4 0 (by omega)
  · rw [Nat.zero_add, ← f2]; exact at4 1 (by omega)
  · rw [Nat.zero_add, ← f3]; exact at4 2 (by omega)
  · rw [Nat.zero_add, ← f4]; exact at4 3 (by omega)
theorem BoxOwn.ext {M : Nat} {W W' : World} {v : Value} {X : Wr} (h : BoxOwn M W v X) (hE : Ext W W') : BoxOwn M W' v X := by
  obtain ⟨gp, cp, gq, d, xs, g, c, rfl, h1, h2, h3, h4, h5⟩ := h
  exact ⟨gp, cp, gq, d, xs, g, c, rfl, ownsRow_ext h1 hE, ownsRow_ext h2 hE, h3.fr (hE.fr (fun _ => False)) (fun _ _ h => h), h4, h5⟩

set_option maxRecDepth 20000 in
set_option maxHeartbeats 6400000 in
theorem Copy03 (v : Value) (X : Wr) (w : World) (hv : WrV w v X) (hg : X.rough.length ≤ 1000) (hc : X.recs.length ≤ 1000) (hpl : ∀ r ∈ X.recs, r.plays.length ≤ 1000) :
    Calls Try.prog 17 #[v] w (fun e w' => ∃ v, e = .returned v ∧ Ext w w' ∧ BoxOwn (w.heap.size + 3) w' v X) := by
  obtain ⟨p, c, q, d, rfl, h1, h2⟩ := hv
  go_enter Try.func17, Try.ntmps17
  go_upto_region 2 with (fail)
  obtain ⟨W, hW⟩ : ∃ W, W = ((w.alloc (.cells (wrCells X p c q d) 25)).alloc (.cells #[.int .i64 0, .int .i64 0, .int .i64 0, .int .i64 0, .slice none 0 0, .slice none 0 0] 25)).alloc (.cells (wrCells X p c q d) 25) := ⟨_, rfl⟩
  have hb0 : W.heap[w.heap.size]? = some (.cells (wrCells X p c q d) 25) := by rw [hW]; exact heap3_0 w _ _ _
  have hb1 : W.heap[w.heap.size + 1]? = some (.cells #[.int .i64 0, .int .i64 0, .int .i64 0, .int .i64 0, .slice none 0 0, .slice none 0 0] 25) := by rw [hW]; exact heap_old _ (heap_newN _ (by simp only [size_alloc]))
  have hb2 : W.heap[w.heap.size + 1 + 1]? = some (.cells (wrCells X p c q d) 25) := by rw [hW]; exact heap_newN _ (by simp only [size_alloc])
  have hE : Ext w W := by rw [hW]; exact Ext.alloc (Ext.alloc (Ext.alloc (Ext.refl w) _) _) _
  have hWs : W.heap.size = w.heap.size + 3 := by rw [hW]; simp only [size_alloc]
  unfold wrCells at hW hb0 hb2
  rw [← hW]
  have hWB : Bel W (w.heap.size + 1) W := Bel.refl (by omega)
  have HWB := Lib.hid hWB
  have HQ := Lib.hid (fun x (h : Bel W (w.heap.size + 1) x) => (⟨h.cell (Nat.lt_succ_self _) ((cell_of_heap hb0 4).trans rfl), h.cell (Nat.lt_succ_self _) ((cell_of_heap hb0 5).trans rfl)⟩ : x.cell? ⟨w.heap.size, 4, none⟩ = some (.slice p X.rough.length c) ∧ x.cell? ⟨w.heap.size, 5, none⟩ = some (.slice q X.recs.length d)))
  have HI := Lib.hid (fun x (h : Bel W (w.heap.size + 1) x) => h1.ext (h.ext hE (by omega)))
  have HP := Lib.hid (fun x (h : Bel W (w.heap.size + 1) x) => h2.ext (h.ext hE (by omega)))
  have HES := Lib.hid hE
  have HIW := Lib.hid h1
  have HPW := Lib.hid h2
  have HIW := Lib.hid h1
  have HPW := Lib.hid h2
  have HIW := Lib.hid h1
  have HPW := Lib.hid h2
  have HB1 := Lib.hid hb1
  have HB2 := Lib.hid hb2
  have HWS := Lib.hid hWs
  clear hW hWB hE hWs h1 h2 hb0 hb1
  have f0 : ∀ z, Ext W z → z.cell? ⟨w.heap.size + 1 + 1, 4, none⟩ = some (.slice p X.rough.length c) ∧ z.cell? ⟨w.heap.size + 1 + 1, 5, none⟩ = some (.slice q X.recs.length d) ∧ z.frozen? ⟨w.heap.size + 1 + 1, 4, none⟩ = false ∧ z.frozen? ⟨w.heap.size + 1 + 1, 5, none⟩ = false := fun z hz =>
    ⟨hz.cell ((cell_of_heap hb2 4).trans rfl), hz.cell ((cell_of_heap hb2 5).trans rfl), cell_frozen ((Below.block hz _ (Array.getElem?_eq_some_iff.1 hb2).1).trans hb2) 4, cell_frozen ((Below.block hz _ (Array.getElem?_eq_some_iff.1 hb2).1).trans hb2) 5⟩
  clear hb2
  have HF0 := Lib.hid f0
  clear f0
  go_region_held3 (fun x => x.cell? ⟨w.heap.size, 4, none⟩ = some (.slice p X.rough.length c) ∧ x.cell? ⟨w.heap.size, 5, none⟩ = some (.slice q X.recs.length d))
    ((refine HQ.out _ ?_; repeat (first | exact HWB.out | refine Bel.alloc ?_ _ | refine Bel.drew ?_ | refine Bel.step ?_ (by assumption) | refine Bel.set ?_ (by omega))))
    (first
      | (refine step_row_e rfl (.tmp 6) (.tmp 8) rfl _ rfl p X.rough c rfl (by repeat (first | exact World.ownsRow_made _ #[] 0 (Nat.le_refl _) (by decide) rfl | exact own_made2 _ _ _ _ | refine World.ownsRow.alloc ?_ _ | refine ownsRow_step ?_ (by assumption))) (HI.out _ (by repeat (first | exact HWB.out | refine Bel.alloc ?_ _ | refine Bel.drew ?_ | refine Bel.step ?_ (by assumption) | refine Bel.set ?_ (by omega)))) hg ?_; intro g2 cn2 w2 ho2 hE2 ha2 hl2; have hS2 := Stp.mk hE2; have HO2 := Lib.hid ho2; have HA2 := Lib.hid ha2; clear ho2 hE2 ha2)
      | (refine step_recs_e rfl (.tmp 10) (.tmp 12) rfl _ rfl q X.recs d rfl (by repeat (first | exact World.ownsRow_made _ #[] 0 (Nat.le_refl _) (by decide) rfl | exact own_made2 _ _ _ _ | refine World.ownsRow.alloc ?_ _ | refine ownsRow_step ?_ (by assumption))) (HP.out _ (by repeat (first | exact HWB.out | refine Bel.alloc ?_ _ | refine Bel.drew ?_ | refine Bel.step ?_ (by assumption) | refine Bel.set ?_ (by omega)))) hc ?_; intro g3 cn3 w3 xs ho3 hrc hE3 ha3 hl3; have hS3 := Stp.mk hE3; have HO3 := Lib.hid ho3; have HA3 := Lib.hid ha3; have HRC := Lib.hid hrc; clear ho3 hE3 ha3 hrc; obtain ⟨y1, y2, y3, y4⟩ := HF0.out w3 (by repeat (first | exact Ext.refl _ | refine Ext.alloc ?_ _ | refine Ext.drew ?_ | refine Ext.trans ?_ (Stp.out (by assumption))))))
  all_goals
    have ex2 := Ext.size (Stp.out hS2)
    have ex3 := Ext.size (Stp.out hS3)
    have ea2 := HA2.out
    have ea3 := HA3.out
    have exW := HWS.out
    try simp only [size_alloc] at ex2
    try simp only [size_drew] at ex2
    try simp only [size_alloc] at ex2
    try simp only [size_alloc] at ex3
    try simp only [size_drew] at ex3
    try simp only [size_alloc] at ea2
    try simp only [size_drew] at ea2
    try simp only [size_alloc] at ea2
    try simp only [size_alloc] at ea3
    try simp only [size_drew] at ea3
    have hgg : g2 ≠ g3 := by omega
    have hl23 : g2 < w3.heap.size := by omega
    have hm2 : w.heap.size + 3 ≤ g2 := by omega
    have hm3 : w.heap.size + 3 ≤ g3 := by omega
    have hE3 : Ext W w3 := by repeat (first | exact Ext.refl _ | refine Ext.alloc ?_ _ | refine Ext.drew ?_ | refine Ext.trans ?_ (Stp.out (by assumption)))
    have hE23 : Ext w2 w3 := by repeat (first | exact Ext.refl _ | refine Ext.alloc ?_ _ | refine Ext.drew ?_ | refine Ext.trans ?_ (Stp.out hS3))
    generalize hW5 : World.setCell _ _ _ = W5
    have hF5 : Fr (fun k => k = w.heap.size + 1 + 1) w3 W5 := by rw [← hW5]; exact ((Fr.refl (fun k => k = w.heap.size + 1 + 1) w3).set rfl).set rfl
    have hEw5 : Ext w W5 := Fr.ext (HES.out.trans hE3) hF5 (fun i hi => by have e : i = w.heap.size + 1 + 1 := hi; omega)
    have hd5 : W5.heap[w.heap.size + 1 + 1]? = some (.cells #[.int .i64 X.weeks, .int .i64 X.price, .int .i64 X.age, .int .i64 X.step, .slice (some ⟨g2, 0, none⟩) X.rough.length cn2, .slice (some ⟨g3, 0, none⟩) X.recs.length cn3] 25 (0, 0)) := by
      rw [← hW5]
      exact heap_set (heap_set ((Below.block hE3 _ (Array.getElem?_eq_some_iff.1 HB2.out).1).trans HB2.out) rfl) rfl
    have hz5 : W5.heap[w.heap.size + 1]? = some (.cells #[.int .i64 0, .int .i64 0, .int .i64 0, .int .i64 0, .slice none 0 0, .slice none 0 0] 25 (0, 0)) :=
      (hF5.block _ (by have := hE3.size; omega) (by omega)).trans ((Below.block hE3 _ (Array.getElem?_eq_some_iff.1 HB1.out).1).trans HB1.out)
    have hq5 : W5.cell? ⟨w.heap.size, 5, none⟩ = some (.slice q X.recs.length d) := by
      have := (HQ.out _ ((HWB.out.step (Stp.mk hE3)).set (c := w.heap.size + 1 + 1) (o := 4) (u := .slice (some ⟨g2, 0, none⟩) X.rough.length cn2) (by omega) |>.set (c := w.heap.size + 1 + 1) (o := 5) (u := .slice (some ⟨g3, 0, none⟩) X.recs.length cn3) (by omega))).2
      rw [← hW5]
      exact this
    have hr5 : W5.ownsRow (w.heap.size + 3) 3 1 (.slice (some ⟨g2, 0, none⟩) X.rough.length cn2) X.rough.length (intVs X.rough) := ownsRow_fr (ownsRow_ext (ownsRow_base HO2.out hm2) hE23) hF5 (fun b hb e => by cases hb; have e2 : g2 = w.heap.size + 1 + 1 := e; omega)
    have hs5 : W5.ownsRow (w.heap.size + 3) 54 4 (.slice (some ⟨g3, 0, none⟩) X.recs.length cn3) X.recs.length xs := ownsRow_fr (ownsRow_base HO3.out hm3) hF5 (fun b hb e => by cases hb; have e2 : g3 = w.heap.size + 1 + 1 := e; omega)
    have hp5 : RcP W5.heap.size W5 0 xs X.recs (fun _ => 0) (fun _ => 0) := ⟨fun i hi => by obtain ⟨k1, k2, k3, k4, k5, k6, -⟩ := HRC.out i hi; exact ⟨k1, k2, k3, _, k6⟩, fun i _ h => absurd h (by omega), fun i j _ h => absurd h (by omega)⟩
    have hsz5 : g2 < W5.heap.size ∧ g3 < W5.heap.size ∧ w.heap.size + 3 ≤ W5.heap.size := by have := hF5.size; have := hE3.size; omega
    have HEW5 := Lib.hid hEw5
    have HD5 := Lib.hid hd5
    have HZ5 := Lib.hid hz5
    have HQ5 := Lib.hid hq5
    have HR5 := Lib.hid hr5
    have HS5 := Lib.hid hs5
    have HP5 := Lib.hid hp5
    have HGG := Lib.hid hgg
    have HSZ := Lib.hid hsz5
    clear hW5 hF5 hEw5 hd5 hz5 hq5 hr5 hs5 hp5 hgg hsz5 hE3 hE23 hl23 ex2 ex3 ea2 ea3 exW hS2 hS3 HO2 HO3 HA2 HA3 HRC y1 y2 y3 y4 hl2 hl3 HQ HI HP HB1 HB2 HF0 HWB HES HWS hm2
    go_wp2
    go_loopw [4] (fun i wr => ∃ (k : Nat) (ys : List Value) (g c : Nat → Nat), k ≤ X.recs.length ∧ i = .int .i64 k ∧ RcP W5.heap.size wr k ys X.recs g c ∧ wr.ownsRow (w.heap.size + 3) 54 4 (.slice (some ⟨g3, 0, none⟩) X.recs.length cn3) X.recs.length ys ∧ Fr (fun i => i = g3) W5 wr) (fun i _ => X.recs.length - (intOf i).toNat)
    case atStart => exact ⟨0, _, _, _, by omega, rfl, HP5.out, HS5.out, Fr.refl _ _⟩
    case round =>
      obtain ⟨k, ys, g, cc, hk, rfl, hp, hs, hF⟩ := hrel
      have hsz := HSZ.out
      have hd : wr.heap[w.heap.size + 1 + 1]? = _ := (hF.block _ (by omega) (by omega)).trans HD5.out
      have hz : wr.heap[w.heap.size + 1]? = _ := (hF.block _ (by omega) (by omega)).trans HZ5.out
      have hq := hF.cell HQ5.out (by omega)
      have hEw : Ext w wr := Fr.ext HEW5.out hF (fun i hi => by have e : i = g3 := hi; omega)
      have HP := Lib.hid hp
      have HS := Lib.hid hs
      have HF := Lib.hid hF
      have HD := Lib.hid hd
      have HZ := Lib.hid hz
      have HE := Lib.hid hEw
      have HQQ := Lib.hid hq
      clear hp hs hF hsz hz hEw
      by_cases hlt : k < X.recs.length
      · obtain ⟨b, o, q', c', he, -, -, -, hc4, hi⟩ := HPW.out k hlt
        subst he
        have d5 : wr.cell? ⟨w.heap.size + 1 + 1, 5, none⟩ = some (.slice (some ⟨g3, 0, none⟩) X.recs.length cn3) := (cell_of_heap HD.out 5).trans rfl
        have hSS : ∀ z, Ext wr z → z.cell? ⟨w.heap.size + 1 + 1, 5, none⟩ = some (.slice (some ⟨g3, 0, none⟩) X.recs.length cn3) ∧ z.cell? ⟨w.heap.size, 5, none⟩ = some (.slice (some ⟨b, o, none⟩) X.recs.length d) ∧ z.cell? ⟨b, o + k * 4 + 3, none⟩ = some (.slice q' X.recs[k].plays.length c') := fun z hz =>
          ⟨hz.cell d5, hz.cell HQQ.out, (HE.out.trans hz).cell hc4⟩
        have HSS := Lib.hid hSS
        have HI := Lib.hid hi
        have hpk := hpl _ (List.getElem_mem hlt)
        clear hSS hi hc4 hq
        go_upto_region 6 with (fail)
        refine wp_region_heldT (fun z => z.cell? ⟨w.heap.size + 1 + 1, 5, none⟩ = some (.slice (some ⟨g3, 0, none⟩) X.recs.length cn3) ∧ z.cell? ⟨w.heap.size, 5, none⟩ = some (.slice (some ⟨b, o, none⟩) X.recs.length d) ∧ z.cell? ⟨b, o + k * 4 + 3, none⟩ = some (.slice q' X.recs[k].plays.length c')) 11
          [(true, 0), (true, 1), (true, 2), (true, 4), (true, 5), (true, 6), (true, 7), (true, 8), (true, 9), (false, 3), (false, 10)] (by kernel_rfl) (by kernel_rfl) (HSS.out _ (Ext.refl wr).drew) ?_
        simp only [List.map_cons, List.map_nil, List.getElem?_cons_zero, List.getElem?_cons_succ]
        repeat (refine wpHL_take (v := ?_) (by rfl) ?_ (fun _ _ _ h => h) ?_; rotate_left 1; (intro z hz; (try dsimp only at hz); go_simp; (try with_reducible rfl)); simp only [Act.put, List.setIfInBounds_toArray, List.set_cons_zero, List.set_cons_succ])
        refine wpHL_step (fun K hK => ?_)
        go_simp
        refine hK.out _ _ (HSS.out _ ((Ext.refl wr).drew.alloc _)) ?_
        clear hK K
        try simp only [Act.put, List.setIfInBounds_toArray, List.set_cons_zero, List.set_cons_succ]
        refine wpHL_step (fun K hK => ?_)
        refine step_row_e rfl (.tmp 26) (.tmp 32) rfl wr.drew.heap.size rfl q' X.recs[k].plays c' rfl (World.ownsRow_made wr.drew #[] 0 (Nat.le_refl _) (by decide) rfl) (HI.out.ext (HE.out.drew.alloc _)) hpk ?_
        intro g1 c1 w9 ho9 hE9' ha9 hl9
        have hE9 : Ext wr w9 := ((Ext.refl wr).drew.alloc _).trans hE9'
        refine hK.out _ _ (HSS.out _ hE9) ?_
        clear hK K
        have hg1 : wr.heap.size ≤ g1 := by
          have : (wr.drew.alloc (.cells #[] 3)).heap.size = wr.heap.size + 1 := size_alloc _ _
          have e : wr.drew.heap.size = wr.heap.size := rfl
          have e2 : (wr.alloc (.cells #[] 3)).drew.heap.size = wr.heap.size + 1 := size_alloc _ _
          omega
        have hs9 := ownsRow_ext HS.out hE9
        obtain ⟨-, -, -, u, hu⟩ := HP.out.fix k hlt
        obtain ⟨b9, c9, he9, hc9⟩ := ownsRow_cell hs9 (k * 4 + 3) (by omega)
        cases he9
        rw [hu] at hc9
        have f9 := ownsRow_frozen (i := k * 4 + 3) hs9
        have hset := ownsRow_setV (i := k * 4 + 3) (u := .slice (some ⟨g1, 0, none⟩) X.recs[k].plays.length c1) hs9
        have hst := RcP.step HP.out hlt HS.out.1 hE9 (o := k * 4 + 3) rfl HSZ.out.2.1 (ownsRow_base ho9 (by have := HF.out.size; omega)) hg1
        have hF9 : Fr (fun i => i = g3) W5 (w9.setCell ⟨g3, k * 4 + 3, none⟩ (.slice (some ⟨g1, 0, none⟩) X.recs[k].plays.length c1)) := (HF.out.trans (hE9.fr _)).set rfl
        have HST := Lib.hid hst
        have HSET := Lib.hid hset
        have HF9 := Lib.hid hF9
        clear hst hset hF9 ho9 hE9' ha9 hs9 hu hg1 hE9 d5 hd
        try simp only [Act.put, List.setIfInBounds_toArray, List.set_cons_zero, List.set_cons_succ]
        refine wpHL_nil ?_
        simp only [List.drop_succ_cons, List.drop_zero]
        go_wp2
        go_roundw
        case rel => exact ⟨k + 1, _, _, _, by omega, by go_num, HST.out, HSET.out, HF9.out⟩
        case measure => simp [intOf]; omega
      · obtain rfl : k = X.recs.length := by omega
        have d0 : wr.cell? ⟨w.heap.size + 1 + 1, 0, none⟩ = some (.int .i64 X.weeks) := (cell_of_heap HD.out 0).trans rfl
        have d1 : wr.cell? ⟨w.heap.size + 1 + 1, 1, none⟩ = some (.int .i64 X.price) := (cell_of_heap HD.out 1).trans rfl
        have d2 : wr.cell? ⟨w.heap.size + 1 + 1, 2, none⟩ = some (.int .i64 X.age) := (cell_of_heap HD.out 2).trans rfl
        have d3 : wr.cell? ⟨w.heap.size + 1 + 1, 3, none⟩ = some (.int .i64 X.step) := (cell_of_heap HD.out 3).trans rfl
        have d4 : wr.cell? ⟨w.heap.size + 1 + 1, 4, none⟩ = some (.slice (some ⟨g2, 0, none⟩) X.rough.length cn2) := (cell_of_heap HD.out 4).trans rfl
        have d5 : wr.cell? ⟨w.heap.size + 1 + 1, 5, none⟩ = some (.slice (some ⟨g3, 0, none⟩) X.recs.length cn3) := (cell_of_heap HD.out 5).trans rfl
        have z0 : wr.cell? ⟨w.heap.size + 1, 0, none⟩ = some (.int .i64 0) := (cell_of_heap HZ.out 0).trans rfl
        have z1 : wr.cell? ⟨w.heap.size + 1, 1, none⟩ = some (.int .i64 0) := (cell_of_heap HZ.out 1).trans rfl
        have z2 : wr.cell? ⟨w.heap.size + 1, 2, none⟩ = some (.int .i64 0) := (cell_of_heap HZ.out 2).trans rfl
        have z3 : wr.cell? ⟨w.heap.size + 1, 3, none⟩ = some (.int .i64 0) := (cell_of_heap HZ.out 3).trans rfl
        have z4 : wr.cell? ⟨w.heap.size + 1, 4, none⟩ = some (.slice none 0 0) := (cell_of_heap HZ.out 4).trans rfl
        have z5 : wr.cell? ⟨w.heap.size + 1, 5, none⟩ = some (.slice none 0 0) := (cell_of_heap HZ.out 5).trans rfl
        have fz := fun i => cell_frozen HZ.out i
        clear hd hq
        go_wp2
        generalize hW9 : World.setCell _ _ _ = W9
        have hF9 : Fr (fun k => k = w.heap.size + 1) wr W9 := by rw [← hW9]; exact ((((((Fr.refl (fun k => k = w.heap.size + 1) wr).set rfl).set rfl).set rfl).set rfl).set rfl).set rfl
        have h9 : W9.heap[w.heap.size + 1]? = some (.cells #[.int .i64 X.weeks, .int .i64 X.price, .int .i64 X.age, .int .i64 X.step, .slice (some ⟨g2, 0, none⟩) X.rough.length cn2, .slice (some ⟨g3, 0, none⟩) X.recs.length cn3] 25 (0, 0)) := by rw [← hW9]; exact heap_set6 HZ.out
        have hEw9 : Ext w W9 := Fr.ext HE.out hF9 (fun i hi => by have e : i = w.heap.size + 1 := hi; omega)
        have hsz := HSZ.out
        have hp9 := (HP.out.fr hF9 (fun b hb e => by have e2 : b = w.heap.size + 1 := e; omega))
        refine bodyPost_ret (v := .agg #[.int .i64 X.weeks, .int .i64 X.price, .int .i64 X.age, .int .i64 X.step, .slice (some ⟨g2, 0, none⟩) X.rough.length cn2, .slice (some ⟨g3, 0, none⟩) X.recs.length cn3]) ?_ rfl ⟨_, rfl, hEw9, g2, cn2, g3, cn3, ys, g, cc, rfl, ?_, ?_, hp9.base (by omega), HGG.out, ?_⟩
        · have a0 := cell_of_heap h9 0
          have a1 := cell_of_heap h9 1
          have a2 := cell_of_heap h9 2
          have a3 := cell_of_heap h9 3
          have a4 := cell_of_heap h9 4
          have a5 := cell_of_heap h9 5
          simp at a0 a1 a2 a3 a4 a5
          simp [results, Try.results17, go_sem, a0, a1, a2, a3, a4, a5]
        · exact ownsRow_fr (ownsRow_fr HR5.out HF.out (fun b hb e => by cases hb; have e2 : g2 = g3 := e; exact HGG.out e2)) hF9 (fun b hb e => by have := (HR5.out.lt b hb).1; have e2 : b = w.heap.size + 1 := e; omega)
        · exact ownsRow_fr HS.out hF9 (fun b hb e => by have := (HS.out.lt b hb).1; have e2 : b = w.heap.size + 1 := e; omega)
        · intro i hi
          have := ((hp9.row i hi hi).2.lt (g i) rfl).1
          omega
end Go.Proofs.Ytkcilgjkdiopnaa
