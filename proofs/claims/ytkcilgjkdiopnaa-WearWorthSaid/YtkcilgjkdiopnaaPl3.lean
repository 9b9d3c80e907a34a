/- The walk of Plan, of a valid box. -/
import Derived.Test.YtkcilgjkdiopnaaVF
import Derived.Test.YtkcilgjkdiopnaaN3a
namespace Go.Proofs.Ytkcilgjkdiopnaa
open Go.RowKit

theorem info_wk' : (Try.prog.info? 61).map (fun i => (i.zero, i.size, i.bytes)) = some (some (.agg #[.int .i64 0, .slice none 0 0]), 2, 32) := by kernel_rfl
/-- a plan in the making: in the array of block G, for each week a needle and a row in memory of its own -/
structure PlG (W : World) (B G n : Nat) (nd : Nat → Int) (vs : Nat → Value) (Ls : Nat → List Int) : Prop where
  arr : ∃ cs : Array Value, W.heap[G]? = some (.cells cs 61 (0, 0)) ∧ cs.size = n * 2 ∧ ∀ i, i < n → cs[i * 2]? = some (.int .i64 (nd i)) ∧ cs[i * 2 + 1]? = some (vs i)
  row : ∀ i, i < n → W.ownsRow B 3 1 (vs i) (Ls i).length (intVs (Ls i))
  apart : ∀ i j, i < n → j < n → i ≠ j → ∀ b, (vs i).ownBlock = some b → (vs j).ownBlock ≠ some b
def updV (f : Nat → Value) (k : Nat) (v : Value) : Nat → Value := fun j => if j = k then v else f j
theorem PlG.needle {W : World} {B G n k : Nat} {nd nd' : Nat → Int} {vs : Nat → Value} {Ls : Nat → List Int} (h : PlG W B G n nd vs Ls) (hk : k < n) (hGB : G < B) (hn : ∀ j, j < n → j ≠ k → nd' j = nd j) :
    PlG (W.setCell ⟨G, k * 2, none⟩ (.int .i64 (nd' k))) B G n nd' vs Ls := by
  obtain ⟨cs, h1, h2, h3⟩ := h.arr
  refine ⟨⟨_, heap_set h1 rfl, by rw [Array.size_setIfInBounds]; exact h2, fun i hi => ?_⟩, fun i hi => ?_, h.apart⟩
  · by_cases e : i = k
    · subst e
      refine ⟨by rw [Array.getElem?_setIfInBounds, if_pos rfl, if_pos (by omega)], ?_⟩
      rw [Array.getElem?_setIfInBounds, if_neg (by omega)]
      exact (h3 i hi).2
    · refine ⟨?_, ?_⟩
      · rw [Array.getElem?_setIfInBounds, if_neg (by omega), hn i hi e]; exact (h3 i hi).1
      · rw [Array.getElem?_setIfInBounds, if_neg (by omega)]; exact (h3 i hi).2
  · exact ownsRow_fr (h.row i hi) ((Fr.refl (fun b => b = G) W).set rfl) (fun b hb e => by have := ((h.row i hi).lt b hb).1; have e2 : b = G := e; omega)
theorem PlG.step {W W' : World} {B G n k g cap : Nat} {nd : Nat → Int} {vs : Nat → Value} {Ls : Nat → List Int} {x : Int} (h : PlG W B G n nd vs Ls) (hk : k < n) (hGB : G < B)
    (hown : W'.ownsRow B 3 1 (.slice (some ⟨g, 0, none⟩) ((Ls k).length + 1) cap) ((Ls k).length + 1) (intVs (Ls k) ++ [.int .i64 x])) (hgr : W.grownBy W' (vs k).ownBlock) (hat : (vs k).ownBlock = some g ∨ W.heap.size ≤ g) :
    PlG (W'.setCell ⟨G, k * 2 + 1, none⟩ (.slice (some ⟨g, 0, none⟩) ((Ls k).length + 1) cap)) B G n nd (updV vs k (.slice (some ⟨g, 0, none⟩) ((Ls k).length + 1) cap)) (fun j => if j = k then Ls k ++ [x] else Ls j) := by
  obtain ⟨cs, h1, h2, h3⟩ := h.arr
  have hGk : (vs k).ownBlock ≠ some G := fun e => by have := ((h.row k hk).lt G e).1; omega
  have hgB : B ≤ g := (hown.lt g rfl).1
  have hFs : Fr (fun b => b = G) W' (W'.setCell ⟨G, k * 2 + 1, none⟩ (.slice (some ⟨g, 0, none⟩) ((Ls k).length + 1) cap)) := (Fr.refl _ _).set rfl
  refine ⟨⟨_, heap_set ((hgr.block G (Array.getElem?_eq_some_iff.1 h1).1 (fun e => hGk e.symm)).trans h1) rfl, by rw [Array.size_setIfInBounds]; exact h2, fun i hi => ?_⟩, fun j hj => ?_, ?_⟩
  · unfold updV
    by_cases e : i = k
    · subst e
      rw [if_pos rfl]
      refine ⟨?_, by rw [Array.getElem?_setIfInBounds, if_pos rfl, if_pos (by omega)]⟩
      rw [Array.getElem?_setIfInBounds, if_neg (by omega)]
      exact (h3 i hi).1
    · rw [if_neg e]
      refine ⟨?_, ?_⟩
      · rw [Array.getElem?_setIfInBounds, if_neg (by omega)]; exact (h3 i hi).1
      · rw [Array.getElem?_setIfInBounds, if_neg (by omega)]; exact (h3 i hi).2
  · unfold updV
    by_cases e : j = k
    · subst e
      simp only [if_true]
      have := ownsRow_fr hown hFs (fun b hb e2 => by cases hb; have e3 : g = G := e2; omega)
      rw [show intVs (Ls j ++ [x]) = intVs (Ls j) ++ [.int .i64 x] from by simp [intVs], show (Ls j ++ [x]).length = (Ls j).length + 1 from by simp]
      exact this
    · rw [if_neg e, if_neg e]
      have h1 := ownsRow_fr (h.row j hj) (grown_fr hgr) (fun b hb e2 => h.apart k j hk hj (fun e3 => e e3.symm) b e2 hb)
      exact ownsRow_fr h1 hFs (fun b hb e2 => by have := (h1.lt b hb).1; have e3 : b = G := e2; omega)
  · intro i j hi hj hij b hb hc
    unfold updV at hb hc
    have new : ∀ m (hm : m < n), m ≠ k → (vs m).ownBlock = some g → False := fun m hm hmk hg => by
      rcases hat with ha | ha
      · exact h.apart k m hk hm (fun e => hmk e.symm) g ha hg
      · have := ((h.row m hm).lt g hg).2; omega
    by_cases e1 : i = k
    · subst e1
      rw [if_pos rfl] at hb
      rw [if_neg (fun e => hij e.symm)] at hc
      cases hb
      exact new j hj (fun e => hij e.symm) hc
    · rw [if_neg e1] at hb
      by_cases e2 : j = k
      · subst e2
        rw [if_pos rfl] at hc
        cases hc
        exact new i hi e1 hb
      · rw [if_neg e2] at hc
        exact h.apart i j hi hj hij b hb hc
theorem PlG.congr {W : World} {B G n : Nat} {nd nd' : Nat → Int} {vs : Nat → Value} {Ls Ls' : Nat → List Int} (h : PlG W B G n nd vs Ls) (h1 : ∀ j, j < n → nd' j = nd j) (h2 : ∀ j, j < n → Ls' j = Ls j) : PlG W B G n nd' vs Ls' := by
  obtain ⟨cs, a1, a2, a3⟩ := h.arr
  exact ⟨⟨cs, a1, a2, fun i hi => by rw [h1 i hi]; exact a3 i hi⟩, fun i hi => by rw [h2 i hi]; exact h.row i hi, h.apart⟩
theorem PlG.ext {W W' : World} {B G n : Nat} {nd : Nat → Int} {vs : Nat → Value} {Ls : Nat → List Int} (h : PlG W B G n nd vs Ls) (hE : Ext W W') : PlG W' B G n nd vs Ls := by
  obtain ⟨cs, a1, a2, a3⟩ := h.arr
  exact ⟨⟨cs, (Below.block hE G (Array.getElem?_eq_some_iff.1 a1).1).trans a1, a2, a3⟩, fun i hi => ownsRow_ext (h.row i hi) hE, h.apart⟩
theorem PlG.cell {W : World} {B G n k : Nat} {nd : Nat → Int} {vs : Nat → Value} {Ls : Nat → List Int} (h : PlG W B G n nd vs Ls) (hk : k < n) :
    W.cell? ⟨G, k * 2, none⟩ = some (.int .i64 (nd k)) ∧ W.cell? ⟨G, k * 2 + 1, none⟩ = some (vs k) ∧ W.frozen? ⟨G, k * 2, none⟩ = false ∧ W.frozen? ⟨G, k * 2 + 1, none⟩ = false := by
  obtain ⟨cs, h1, h2, h3⟩ := h.arr
  exact ⟨(cell_of_heap h1 _).trans (h3 k hk).1, (cell_of_heap h1 _).trans (h3 k hk).2, cell_frozen h1 _, cell_frozen h1 _⟩
theorem PlG.far {W W' : World} {B G n k : Nat} {nd : Nat → Int} {vs : Nat → Value} {Ls : Nat → List Int} (h : PlG W B G n nd vs Ls) (hk : k < n) (hGB : G < B) (hgr : W.grownBy W' (vs k).ownBlock) :
    W'.cell? ⟨G, k * 2 + 1, none⟩ = some (vs k) ∧ W'.frozen? ⟨G, k * 2 + 1, none⟩ = false := by
  obtain ⟨cs, h1, h2, h3⟩ := h.arr
  have hGk : (vs k).ownBlock ≠ some G := fun e => by have := ((h.row k hk).lt G e).1; omega
  have := (hgr.block G (Array.getElem?_eq_some_iff.1 h1).1 (fun e => hGk e.symm)).trans h1
  exact ⟨(cell_of_heap this _).trans (h3 k hk).2, cell_frozen this _⟩
theorem PlG.wks {W : World} {B G n : Nat} {nd : Nat → Int} {vs : Nat → Value} {Ls : Nat → List Int} (h : PlG W B G n nd vs Ls) : WksAt W (some ⟨G, 0, none⟩) ((List.range n).map fun k => ⟨nd k, Ls k⟩) := by
  intro i hi
  have hi' : i < n := by simpa using hi
  have h1 := h.cell hi'
  obtain ⟨q, c, h2, h3⟩ := ownsRow_ints (h.row i hi')
  refine ⟨G, 0, q, c, rfl, ?_, ?_, ?_⟩
  · rw [Nat.zero_add]; simpa using h1.1
  · rw [Nat.zero_add]; simpa [h2] using h1.2.1
  · simpa using h3
theorem make_wk (n : Nat) (hn : n ≤ 6) (w : World) : (Instr.makeSlice 26 (.int .i64 n) (.int .i64 n)).run Try.prog w = .ok (.slice (some ⟨w.heap.size, 0, none⟩) n n) (w.alloc (.cells (madeCells #[.int .i64 0, .slice none 0 0] (n * 2)) 61)) := by
  obtain ⟨i, hi, hz, hs, hb⟩ := info_parts info_wk'
  have := run_make (P := Try.prog) w 26 61 i _ Try.underlying26 hi hz .i64 .i64 n n (by omega) (Int.le_refl _) (by rw [hb]; omega) (by omega)
  rw [this, hs]
  rfl
theorem PlG.made (W : World) (n B : Nat) (cs : Array Value) (he : cs = madeCells #[.int .i64 0, .slice none 0 0] (n * 2)) : PlG (W.alloc (.cells cs 61)) B W.heap.size n (fun _ => 0) (fun _ => .slice none 0 0) (fun _ => []) := by
  subst he
  refine ⟨⟨_, heap_new _ _, size_madeCells _ _, fun i hi => ?_⟩, fun i hi => World.ownsRow_nil _ _ _ _, fun i j _ _ _ b hb => by cases hb⟩
  have e0 : i * 2 < n * 2 := by omega
  have e1 : i * 2 + 1 < n * 2 := by omega
  have m0 : i * 2 % 2 = 0 := by omega
  have m1 : (i * 2 + 1) % 2 = 1 := by omega
  constructor
  · simp [madeCells, e0]
  · simp [madeCells, e1, m1]

def needBit (c : Ch) (k : Nat) : Int := if c.needles.testBit k = true then 1 else 0
/-- which of the first records are replaced in a week -/
def idxTo (c : Ch) (k : Nat) : Nat → List Int
  | 0 => []
  | m + 1 => if (c.records.getD m 0).testBit k = true then idxTo c k m ++ [(m : Int)] else idxTo c k m
theorem idxTo_len (c : Ch) (k : Nat) : ∀ m, (idxTo c k m).length ≤ m
  | 0 => Nat.le_refl _
  | m + 1 => by
    have := idxTo_len c k m
    simp only [idxTo]
    split
    · simp; omega
    · omega
def planOf (X : Wr) (c : Ch) : List Wk := (List.range X.weeks.toNat).map fun k => ⟨needBit c k, idxTo c k X.recs.length⟩
def PlanPost (X : Wr) (w : World) (e : Ending) (w' : World) : Prop := Ext w w' ∧ match bestW X with
  | none => e = .returned (.tuple #[.slice none 0 0, .int .i64 3])
  | some c => ∃ G cap, e = .returned (.tuple #[.slice (some ⟨G, 0, none⟩) (planOf X c).length cap, .int .i64 0]) ∧ WksAt w' (some ⟨G, 0, none⟩) (planOf X c)

set_option maxRecDepth 20000 in
set_option maxHeartbeats 6400000 in
theorem Plan03 (v : Value) (X : Wr) (w : World) (hv : WrV w v X) (hX : ValidW X) (hM : ModestW X) : Calls Try.prog 42 #[v] w (PlanPost X w) := by
  obtain ⟨p, cp, q, d, rfl, hG, hR⟩ := hv
  have hse := fun w' (h : Ext w w') => seek03 X hX p q cp d 62 _ (says_whole X hX) w' hM (hR.ext h) (hG.ext h)
  have HSE := Lib.hid hse
  have HX := Lib.hid hX
  obtain ⟨n, hn'⟩ : ∃ n : Nat, X.weeks = n := ⟨X.weeks.toNat, by have := hX.weeks; omega⟩
  have hn6 : n ≤ 6 := by have := hX.weeks; omega
  have hx4 : X.recs.length ≤ 4 := hX.recs
  have HN := Lib.hid hn'
  clear hse hX hR hG hM
  go_enter Try.func42, Try.ntmps42
  go_upto_region 1 with (fail)
  rw [HN.out]
  obtain ⟨W, hW⟩ : ∃ W, W = w.alloc (.cells #[.int .i64 n, .int .i64 X.price, .int .i64 X.age, .int .i64 X.step, .slice p X.rough.length cp, .slice q X.recs.length d] 25) := ⟨_, rfl⟩
  have hn := heap_new w (.cells #[.int .i64 n, .int .i64 X.price, .int .i64 X.age, .int .i64 X.step, .slice p X.rough.length cp, .slice q X.recs.length d] 25)
  have hE : Ext w W := by rw [hW]; exact Ext.alloc (Ext.refl w) _
  rw [← hW] at hn ⊢
  have q0 := cell_of_heap hn 0
  have q1 := cell_of_heap hn 1
  have q2 := cell_of_heap hn 2
  have q3 := cell_of_heap hn 3
  have q4 := cell_of_heap hn 4
  have q5 := cell_of_heap hn 5
  simp at q0 q1 q2 q3 q4 q5
  have hs := HSE.out W hE
  rw [HN.out] at hs
  have HS := Lib.hid hs
  have HE := Lib.hid hE
  clear hW hn hE HSE hs hn'
  cases hb : bestW X with
  | none =>
    have hb' := hb
    unfold bestW at hb'
    rw [HN.out] at hb'
    rw [hb'] at HS
    have HB := Lib.hid hb
    clear hb hb'
    go_wp2_with (go_at_call 61; refine HS.out.mono ?_; rintro e W2 ⟨hE2, rfl⟩; unfold zeroCh)
    go_ret2
    refine ⟨?_, by rw [HB.out]; rfl⟩
    have := HE.out.trans hE2
    repeat (with_reducible (first | refine Ext.drew ?_ | refine Ext.alloc ?_ _ | exact this))
  | some c =>
    have hok := bestW_ok HX.out hb
    have hb' := hb
    unfold bestW at hb'
    rw [HN.out] at hb'
    rw [hb'] at HS
    have HB := Lib.hid hb
    clear hb hb'
    go_upto_region 2 with (go_at_call 61; refine HS.out.mono ?_; rintro e W2 ⟨hE2, u, rfl, ⟨mp, mc, rfl, hma, -⟩⟩)
    obtain ⟨b, hbd⟩ : ∃ b, b = W2.heap.size + 1 := ⟨_, rfl⟩
    generalize hW3 : World.alloc _ _ = W3
    have g1 : W3.heap[b]? = some (.cells #[.int .u64 c.needles, .slice mp c.records.length mc] 105) := by rw [← hW3, hbd]; exact heap_new2 _ _ _
    have hE3 : Ext W2 W3 := by rw [← hW3]; exact Ext.alloc (Ext.alloc (Ext.refl _) _) _
    have h0 : W3.cell? ⟨w.heap.size, 0, none⟩ = some (.int .i64 n) := (hE2.trans hE3).cell q0
    have hEw := (HE.out.trans hE2).trans hE3
    have hm3 := hma.ext hE3
    have hmk := make_wk n hn6
    have HG1 := Lib.hid g1
    have HEW := Lib.hid hEw
    have HM3 := Lib.hid hm3
    have HOK := Lib.hid hok
    rw [← hbd]
    clear hW3 g1 hE3 hE2 hEw hma hm3 hok hbd q0 q1 q2 q3 q4 q5 HS HE
    go_upto_region 5 with (fail)
    clear hmk h0
    generalize hcs : madeCells _ _ = cs
    have hp0 := PlG.made W3 n (W3.heap.size + 1) cs hcs.symm
    obtain ⟨G, hGd⟩ : ∃ G, G = W3.heap.size := ⟨_, rfl⟩
    obtain ⟨W4, hW4⟩ : ∃ W4, W4 = W3.alloc (.cells cs 61) := ⟨_, rfl⟩
    have hE4 : Ext W3 W4 := by rw [hW4]; exact Ext.alloc (Ext.refl _) _
    rw [← hW4, ← hGd] at hp0 ⊢
    have HP0 := Lib.hid hp0
    have HE4 := Lib.hid hE4
    have HGD := Lib.hid hGd
    have hcel := fun z (h : Ext W3 z) => (⟨h.cell ((cell_of_heap HG1.out 0).trans rfl), h.cell ((cell_of_heap HG1.out 1).trans rfl)⟩ : z.cell? ⟨b, 0, none⟩ = some (.int .u64 c.needles) ∧ z.cell? ⟨b, 1, none⟩ = some (.slice mp c.records.length mc))
    have HCEL := Lib.hid hcel
    have hn64 : c.needles < 64 := HOK.out.needles
    have hHAS := fun (s t : Nat) (z : World) (h1 : s < 64) (h2 : t < 64) => has03 s t z h1 h2
    have HHAS := Lib.hid hHAS
    clear hp0 hE4 hGd hW4 hcs hcel hHAS HG1
    go_wp2
    go_loopw [25] (fun i wr => ∃ (k : Nat) (vs : Nat → Value), k ≤ n ∧ i = .int .i64 k ∧ PlG wr (G + 1) G n (fun j => if j < k then needBit c j else 0) vs (fun j => if j < k then idxTo c j X.recs.length else []) ∧ Ext W3 wr) (fun i _ => n - (intOf i).toNat)
    case atStart => exact ⟨0, _, by omega, rfl, HP0.out.congr (fun j _ => by rw [if_neg (by omega)]) (fun j _ => by rw [if_neg (by omega)]), HE4.out⟩
    case round =>
      obtain ⟨k, vs, hk, rfl, hp, hEr⟩ := hrel
      obtain ⟨r0, r1⟩ := HCEL.out _ hEr
      have HP := Lib.hid hp
      have HER := Lib.hid hEr
      clear hp hEr HP0 HE4
      by_cases hlt : k < n
      · obtain ⟨t0, t1, f0, f1⟩ := HP.out.cell hlt
        have HH := Lib.hid (fun z => HHAS.out c.needles k z hn64 (by omega))
        have hn0 : (fun j : Nat => if j < k then needBit c j else 0) k = 0 := by simp
        simp only [Nat.lt_irrefl, if_false] at t0
        by_cases hbit : c.needles.testBit k = true
        case' pos =>
          rw [hbit] at HH
          have HBIT := Lib.hid hbit
          clear hbit hn0
          go_upto_region 10 with (go_at_call 77; refine (HH.out _).mono ?_; rintro e w' ⟨rfl, m5, rfl⟩)
          have hq := (HP.out.ext (W' := wr.drewN m5) ((Qt.refl wr).drewN m5).ext).needle (nd' := fun j => if j < k + 1 then needBit c j else 0) hlt (Nat.lt_succ_self G) (fun j hj hjk => by
            by_cases e : j < k
            · simp only [if_pos e, if_pos (show j < k + 1 by omega)]
            · simp only [if_neg e, if_neg (show ¬j < k + 1 by omega)])
          simp only [Nat.lt_succ_self, if_true, needBit, HBIT.out] at hq
          have hEq : Ext W3 ((wr.drewN m5).setCell ⟨G, k * 2, none⟩ (.int .i64 1)) := (HER.out.trans ((Qt.refl wr).drewN m5).ext).setCell (p := ⟨G, k * 2, none⟩) (by have := HGD.out; show W3.heap.size ≤ G; omega) _
          generalize hW6 : World.setCell _ _ _ = W6
          rw [hW6] at hq hEq
          have hq2 : PlG W6 (G + 1) G n (fun j => if j < k + 1 then needBit c j else 0) vs (fun j => if j < k then idxTo c j X.recs.length else []) := hq
          clear hW6 hq
        case' neg =>
          have hbf : c.needles.testBit k = false := by simpa using hbit
          rw [hbf] at HH
          have HBIT := Lib.hid hbf
          clear hbit hbf hn0
          go_upto_region 10 with (go_at_call 77; refine (HH.out _).mono ?_; rintro e w' ⟨rfl, m5, rfl⟩)
          have hEq : Ext W3 (wr.drewN m5) := HER.out.trans ((Qt.refl wr).drewN m5).ext
          obtain ⟨W6, hW6⟩ : ∃ W6, W6 = wr.drewN m5 := ⟨_, rfl⟩
          have hq2 : PlG (wr.drewN m5) (G + 1) G n (fun j => if j < k + 1 then needBit c j else 0) vs (fun j => if j < k then idxTo c j X.recs.length else []) :=
            (HP.out.ext (W' := wr.drewN m5) ((Qt.refl wr).drewN m5).ext).congr (fun j hj => by
              by_cases e : j < k
              · simp only [if_pos e, if_pos (show j < k + 1 by omega)]
              · by_cases e2 : j = k
                · subst e2; simp [needBit, HBIT.out]
                · simp only [if_neg e, if_neg (show ¬j < k + 1 by omega)]) (fun _ _ => rfl)
          rw [← hW6] at hq2 hEq ⊢
          clear hW6
        all_goals
          have HQ := Lib.hid hq2
          have HEQ := Lib.hid hEq
          obtain ⟨r0, r1⟩ := HCEL.out _ hEq
          clear hq2 hEq HP HER t0 t1 f0 f1 HH HBIT
          go_wp2
          go_loopw [39] (fun i wr => ∃ (m : Nat) (vi : Nat → Value), m ≤ c.records.length ∧ i = .int .i64 m ∧ PlG wr (G + 1) G n (fun j => if j < k + 1 then needBit c j else 0) vi (fun j => if j < k then idxTo c j X.recs.length else if j = k then idxTo c k m else []) ∧ Ext W3 wr) (fun i _ => c.records.length - (intOf i).toNat)
          case atStart => exact ⟨0, vs, by omega, rfl, HQ.out.congr (fun _ _ => rfl) (fun j hj => by
            by_cases e : j < k
            · rw [if_pos e, if_pos e]
            · rw [if_neg e, if_neg e]; split <;> rfl), HEQ.out⟩
          case round =>
            obtain ⟨m, vi, hm, rfl, hp, hEi⟩ := hrel
            have HP := Lib.hid hp
            have HEI := Lib.hid hEi
            clear hp hEi HQ HEQ r0 r1
            by_cases hmlt : m < c.records.length
            · obtain ⟨mb, mo, rfl, hcc⟩ := HM3.out.at m hmlt
              have hcc' := HEI.out.cell hcc
              have hm64 := HOK.out.recs m hmlt
              have hcl4 : c.records.length ≤ 4 := by have := HOK.out.len; omega
              have hsn : idxTo c k (m + 1) = if (c.records[m]).testBit k = true then idxTo c k m ++ [(m : Int)] else idxTo c k m := by
                simp only [idxTo]
                rw [show c.records.getD m 0 = c.records[m] from by simp [List.getD, hmlt]]
              obtain ⟨x, hx⟩ : ∃ x, x = c.records[m] := ⟨_, rfl⟩
              rw [← hx] at hsn hm64 hcc'
              have HH := Lib.hid (fun z => HHAS.out x k z hm64 (by omega))
              by_cases hbit : x.testBit k = true
              · rw [hbit] at HH
                rw [if_pos hbit] at hsn
                have HSN := Lib.hid hsn
                obtain ⟨i0, hi, hz0, hz1, hz2⟩ := info_parts info_a
                obtain ⟨t0, t1, f0, f1⟩ := HP.out.cell hlt
                have hGl : G < wr.heap.size := lt_of_cell t1
                have hrow : wr.ownsRow (G + 1) 3 1 (vi k) (idxTo c k m).length (intVs (idxTo c k m)) := by have := HP.out.row k hlt; simpa using this
                have HROW := Lib.hid hrow
                have hil := idxTo_len c k m
                obtain ⟨ln, hln⟩ : ∃ ln, ln = (idxTo c k m).length := ⟨_, rfl⟩
                rw [← hln] at HROW hil
                have hm1 : ln + 1 ≤ maxLen := by unfold maxLen; omega
                have hm2 : (ln + 1) * 8 ≤ 140737488355328 := by omega
                have hbase : G + 1 ≤ wr.heap.size := hGl
                have HLN := Lib.hid hln
                clear hsn hrow hbit hcc hx hln
                go_upto_region 14 with (go_at_call 77; refine (HH.out _).mono ?_; rintro e w' ⟨rfl, m6, rfl⟩)
                obtain ⟨W8, hW8⟩ : ∃ W8, W8 = wr.drewN m6 := ⟨_, rfl⟩
                have hE8 : Ext wr W8 := by rw [hW8]; exact ((Qt.refl wr).drewN m6).ext
                have hp8 := HP.out.ext hE8
                have ho8 := ownsRow_ext HROW.out hE8
                have t1' := hE8.cell t1
                have hb8 : G + 1 ≤ W8.heap.size := Nat.le_trans hbase hE8.size
                have HEI8 := Lib.hid (HEI.out.trans hE8)
                have HP8 := Lib.hid hp8
                have HO8 := Lib.hid ho8
                rw [← hW8]
                clear hW8 hE8 hp8 ho8 t0 t1 f0 f1 hGl hbase HP HROW HEI r0 hcc'
                go_wp2_with ((at_builtin; refine wpList_append_lies rfl (.tmp 53) (.tmp 55) 22 rfl (G + 1) 3 i0 (.int .i64 0) 1 8 Try.underlying22 hi hz0 hz1 hz2 rfl (by decide) (vi k) ln (intVs (idxTo c k m)) rfl (ownsRow_ext HO8.out (Ext.alloc (Ext.refl _) _)) ⟨_, 0, none⟩ 1 1 [.int .i64 m] rfl rfl (hnewsE (Ext.refl _) rfl) (one_int _) (by decide) hm1 hm2 (by rw [size_alloc]; exact Nat.le_succ_of_le hb8) ?_; intro g cap w1 hown hgr hat; obtain ⟨hc1, hf1⟩ := PlG.far (HP8.out.ext (Ext.alloc (Ext.refl _) _)) hlt (Nat.lt_succ_self G) hgr; have HOWN := Lib.hid hown; have HGR := Lib.hid hgr; have HAT := Lib.hid hat; clear hown hgr hat))
                have hl2 := HLN.out
                subst hl2
                have hst := (HP8.out.ext (Ext.alloc (Ext.refl _) (.cells #[.int .i64 m] 3))).step (x := m) (g := g) (cap := cap) hlt (Nat.lt_succ_self G)
                  (by simpa using HOWN.out) HGR.out (HAT.out.imp id (fun e => by rw [e]; exact Nat.le_refl _))
                simp only [Nat.lt_irrefl, if_false, if_true] at hst
                have hE9 : Ext W3 (w1.setCell ⟨G, k * 2 + 1, none⟩ (.slice (some ⟨g, 0, none⟩) ((idxTo c k m).length + 1) cap)) := by
                  refine Ext.setCell (p := ⟨G, k * 2 + 1, none⟩) ?_ (by have := HGD.out; show W3.heap.size ≤ G; omega) _
                  refine Fr.ext HEI8.out ((Ext.fr (Ext.alloc (Ext.refl W8) (.cells #[.int .i64 m] 3)) (fun b => (vi k).ownBlock = some b)).trans (grown_fr HGR.out)) (fun b e => ?_)
                  have := ((HP8.out.row k hlt).lt b e).1
                  have := HGD.out
                  omega
                have HST := Lib.hid hst
                have HE9 := Lib.hid hE9
                clear hst hE9 hc1 hf1 HOWN HGR HAT HLN
                go_roundw
                case rel => exact ⟨m + 1, _, by omega, by go_num, HST.out.congr (fun _ _ => rfl) (fun j hj => by
                  by_cases e : j < k
                  · rw [if_pos e, if_neg (show ¬j = k by omega), if_pos e]
                  · rw [if_neg e]
                    by_cases e2 : j = k
                    · rw [if_pos e2, if_pos e2, HSN.out]
                    · rw [if_neg e2, if_neg e2, if_neg e, if_neg e2]), HE9.out⟩
                case measure => simp [intOf]; omega
              · have hbf : x.testBit k = false := by simpa using hbit
                rw [hbf] at HH
                rw [if_neg hbit] at hsn
                have HSN := Lib.hid hsn
                clear hsn hbit hbf hcc hx
                go_wp2_with (go_at_call 77; refine (HH.out _).mono ?_; rintro e w' ⟨rfl, m6, rfl⟩)
                go_roundw
                case rel => exact ⟨m + 1, vi, by omega, by go_num, (HP.out.ext (W' := wr.drewN m6) ((Qt.refl wr).drewN m6).ext).congr (fun _ _ => rfl) (fun j hj => by
                  by_cases e : j < k
                  · rw [if_pos e, if_pos e]
                  · rw [if_neg e, if_neg e]
                    by_cases e2 : j = k
                    · rw [if_pos e2, if_pos e2, HSN.out]
                    · rw [if_neg e2, if_neg e2]), HEI.out.trans ((Qt.refl wr).drewN m6).ext⟩
                case measure => simp [intOf]; omega
            · obtain rfl : m = c.records.length := by omega
              have HLN := Lib.hid HOK.out.len
              go_wp2
              go_roundw
              case rel => exact ⟨k + 1, vi, by omega, by go_num, HP.out.congr (fun _ _ => rfl) (fun j hj => by
                by_cases e : j < k
                · rw [if_pos e, if_pos (show j < k + 1 by omega)]
                · rw [if_neg e]
                  by_cases e2 : j = k
                  · subst e2; rw [if_pos rfl, if_pos (Nat.lt_succ_self _), HLN.out]
                  · rw [if_neg e2, if_neg (show ¬j < k + 1 by omega)]), HEI.out⟩
              case measure => simp [intOf]; omega
      · obtain rfl : k = n := by omega
        go_wp2
        go_ret2
        have hpl : planOf X c = (List.range k).map fun j => ⟨needBit c j, idxTo c j X.recs.length⟩ := by unfold planOf; rw [HN.out]; rfl
        refine ⟨HEW.out.trans HER.out, ?_⟩
        rw [HB.out]
        refine ⟨G, k, ?_, ?_⟩
        · rw [hpl]; simp
        · rw [hpl]
          exact (HP.out.congr (nd' := needBit c) (Ls' := fun j => idxTo c j X.recs.length) (fun j hj => by rw [if_pos hj]) (fun j hj => by rw [if_pos hj])).wks
end Go.Proofs.Ytkcilgjkdiopnaa
