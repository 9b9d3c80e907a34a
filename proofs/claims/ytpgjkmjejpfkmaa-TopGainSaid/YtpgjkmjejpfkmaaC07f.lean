/- The walk of Clone. -/
import Derived.Test.YtpgjkmjejpfkmaaC07e
import Derived.Deep.RegionHeld3
namespace Go.Proofs.Ytpgjkmjejpfkmaa
open Go.RowKit

def Stp (a b : World) : Prop := Ext a b
theorem Stp.out {a b : World} (h : Stp a b) : Ext a b := h
theorem Stp.mk {a b : World} (h : Ext a b) : Stp a b := h

/-- the blocks below B are as they were -/
structure Bel (a : World) (B : Nat) (x : World) : Prop where
  le : B ≤ a.heap.size
  be : Below B a x
theorem Bel.refl {a : World} {B : Nat} (h : B ≤ a.heap.size) : Bel a B a := ⟨h, Below.refl _ _⟩
theorem Bel.alloc {a x : World} {B : Nat} (h : Bel a B x) (o : Obj) : Bel a B (x.alloc o) := ⟨h.le, h.be.alloc (Nat.le_trans h.le h.be.size) o⟩
theorem Bel.drew {a x : World} {B : Nat} (h : Bel a B x) : Bel a B x.drew := ⟨h.le, h.be.drew⟩
theorem Bel.step {a x y : World} {B : Nat} (h : Bel a B x) (k : Stp x y) : Bel a B y := ⟨h.le, h.be.trans (Below.mono k.out (Nat.le_trans h.le h.be.size))⟩
theorem Bel.set {a x : World} {B c o : Nat} {u : Value} (h : Bel a B x) (hc : B ≤ c) : Bel a B (x.setCell ⟨c, o, none⟩ u) := ⟨h.le, h.be.setCell (p := ⟨c, o, none⟩) hc u⟩
theorem Bel.ext {w a x : World} {B : Nat} (h : Bel a B x) (hE : Ext w a) (hB : w.heap.size ≤ B) : Ext w x := Below.trans hE (h.be.mono hB)
theorem Bel.cell {a x : World} {B b o : Nat} {v : Value} (h : Bel a B x) (hb : b < B) (hc : a.cell? ⟨b, o, none⟩ = some v) : x.cell? ⟨b, o, none⟩ = some v := (Below.cell h.be (p := ⟨b, o, none⟩) hb).trans hc

theorem size_drew (w : World) : w.drew.heap.size = w.heap.size := rfl
theorem ownsRow_step {x y : World} {B : Nat} {e : TypeId} {size : Nat} {v : Value} {n : Nat} {xs : List Value} (h : x.ownsRow B e size v n xs) (k : Stp x y) : y.ownsRow B e size v n xs := ownsRow_ext h k.out
theorem own_made2 (w : World) (A : Obj) (t : TypeId) (size : Nat) : ((w.alloc A).alloc (.cells #[] t)).ownsRow (w.heap.size + 1) t size (.slice (some ⟨w.heap.size + 1, 0, none⟩) 0 0) 0 [] := by
  have := World.ownsRow_made (w.alloc A) #[] 0 (Nat.le_refl _) (by decide) (by simp : (#[] : Array Value).size = 0 * size) (e := t)
  rwa [size_alloc] at this

theorem CloneLists07s (p : Option Addr) (l : List (List Int)) (c0 : Nat) (w : World) (hl : l.length ≤ 1000) (hr : ∀ i (h : i < l.length), l[i].length ≤ 1000) (hp : ListsAt w p l) :
    Calls Try.prog 30 #[.slice p l.length c0] w (fun e w' => ∃ q cap g c, e = .returned (.slice q l.length cap) ∧ Ext w w' ∧ RowsOwn w' w.heap.size (.slice q l.length cap) l g c) := by
  refine (CloneLists07 p l c0 w hl hr hp).mono ?_
  rintro e w' ⟨v, g, c, rfl, hE, hR⟩
  rcases hR.out.2 with ⟨hv, h0⟩ | ⟨b, cap, cur, hv, -⟩
  · have hv' : v = .slice none l.length 0 := by rw [hv, h0]
    subst hv'
    exact ⟨none, 0, g, c, rfl, hE, hR⟩
  · subst hv
    exact ⟨_, cap, g, c, rfl, hE, hR⟩

theorem step_row_of {ops : Array Oper} {E : Prop} {w : World} {o : Oper} {a : Act} {K : Act → World → Prop} {Q : Exit → Act → World → Prop} (hgd : o.guard = none) (s x : Operand)
    (ho : o.op = .call { callee := .builtin .append, args := #[s, x], argTypes := #[23, 23] })
    (H : Nat) (hs : a.eval s = .slice (some ⟨H, 0, none⟩) 0 0) (p : Option Addr) (l : List Int) (c : Nat) (hx : a.eval x = .slice p l.length c)
    (hown : w.ownsRow H 3 1 (.slice (some ⟨H, 0, none⟩) 0 0) 0 [])
    (hl : IntsAt w p l) (hle : l.length ≤ 1000)
    (h : ∀ g cn w', w'.ownsRow g 3 1 (.slice (some ⟨g, 0, none⟩) l.length cn) l.length (intVs l) → Ext w w' → (g = H ∨ g = w.heap.size) → g < w'.heap.size → K (a.put o.dst (.slice (some ⟨g, 0, none⟩) l.length cn)) w') :
    if Region.wanted o (yielded ops a.tmps) = true then Oper.wp Try.prog o a w K Q else E := by
  have hw : Region.wanted o (yielded ops a.tmps) = true := by simp [Region.wanted, hgd]
  rw [if_pos hw]
  exact wp_row_of s x ho H hs hown (hown.lt H rfl).2 p l c hx hl hle h

theorem step_pairs_of {ops : Array Oper} {E : Prop} {w : World} {o : Oper} {a : Act} {K : Act → World → Prop} {Q : Exit → Act → World → Prop} (hgd : o.guard = none) (s x : Operand)
    (ho : o.op = .call { callee := .builtin .append, args := #[s, x], argTypes := #[24, 24] })
    (H : Nat) (hs : a.eval s = .slice (some ⟨H, 0, none⟩) 0 0) (p : Option Addr) (l : List (Int × Int)) (c : Nat) (hx : a.eval x = .slice p l.length c)
    (hown : w.ownsRow H 45 2 (.slice (some ⟨H, 0, none⟩) 0 0) 0 [])
    (hl : PairsAt w p l) (hle : l.length ≤ 1000)
    (h : ∀ g cn w', w'.ownsRow g 45 2 (.slice (some ⟨g, 0, none⟩) l.length cn) l.length (pairVs l) → Ext w w' → (g = H ∨ g = w.heap.size) → g < w'.heap.size → K (a.put o.dst (.slice (some ⟨g, 0, none⟩) l.length cn)) w') :
    if Region.wanted o (yielded ops a.tmps) = true then Oper.wp Try.prog o a w K Q else E := by
  have hw : Region.wanted o (yielded ops a.tmps) = true := by simp [Region.wanted, hgd]
  rw [if_pos hw]
  exact wp_pairs_of s x ho H hs hown (hown.lt H rfl).2 p l c hx hl hle h

set_option maxRecDepth 100000 in
set_option maxHeartbeats 40000000 in
theorem Clone07 (v : Value) (S : Swap) (w : World) (hv : SwapV w v S) (h0' : S.boxes.length ≤ 1000) (hr0 : ∀ i (h : i < S.boxes.length), S.boxes[i].length ≤ 1000) (h1' : S.stock.length ≤ 1000)
    (h2' : S.earn.length ≤ 1000) (hr2 : ∀ i (h : i < S.earn.length), S.earn[i].length ≤ 1000) (h3' : S.keeps.length ≤ 1000) :
    Calls Try.prog 16 #[v] w (fun e w' => ∃ v0 v1 v2 v3 g0 k0 g2 k2 B, e = .returned (.agg #[v0, v1, v2, v3, .int .i64 S.changes]) ∧ Ext w w' ∧ w.heap.size ≤ B ∧ CloneOwn w' B S v0 v1 v2 v3 g0 k0 g2 k2) := by
  obtain ⟨p0, c0, p1, c1, p2, c2, p3, c3, rfl, h0, h1, h2, h3⟩ := hv
  go_enter Try.func16, Try.ntmps16
  go_upto_region 1 with (fail)
  have hb0 := heap_new1 w (.cells #[.slice p0 S.boxes.length c0, .slice p1 S.stock.length c1, .slice p2 S.earn.length c2, .slice p3 S.keeps.length c3, .int .i64 S.changes] 26) (.cells #[.slice none 0 0, .slice none 0 0, .slice none 0 0, .slice none 0 0, .int .i64 0] 26)
  have hb1 := heap_new2 w (.cells #[.slice p0 S.boxes.length c0, .slice p1 S.stock.length c1, .slice p2 S.earn.length c2, .slice p3 S.keeps.length c3, .int .i64 S.changes] 26) (.cells #[.slice none 0 0, .slice none 0 0, .slice none 0 0, .slice none 0 0, .int .i64 0] 26)
  obtain ⟨W, hW⟩ : ∃ W, W = (w.alloc (.cells #[.slice p0 S.boxes.length c0, .slice p1 S.stock.length c1, .slice p2 S.earn.length c2, .slice p3 S.keeps.length c3, .int .i64 S.changes] 26)).alloc (.cells #[.slice none 0 0, .slice none 0 0, .slice none 0 0, .slice none 0 0, .int .i64 0] 26) := ⟨_, rfl⟩
  have hE : Ext w W := by rw [hW]; exact Ext.alloc (Ext.alloc (Ext.refl w) _) _
  have hWs : W.heap.size = w.heap.size + 2 := by rw [hW]; simp
  rw [← hW] at hb0 hb1 ⊢
  have hWB : Bel W (w.heap.size + 1) W := Bel.refl (by omega)
  have HWB := Lib.hid hWB
  have HB := Lib.hid (fun w' (h : Bel W (w.heap.size + 1) w') => CloneLists07s p0 S.boxes c0 w' h0' hr0 (h0.ext (h.ext hE (by omega))))
  have HC := Lib.hid (fun w' (h : Bel W (w.heap.size + 1) w') => CloneLists07s p2 S.earn c2 w' h2' hr2 (h2.ext (h.ext hE (by omega))))
  have HI := Lib.hid (fun w' (h : Bel W (w.heap.size + 1) w') => h1.ext (h.ext hE (by omega)))
  have HP := Lib.hid (fun w' (h : Bel W (w.heap.size + 1) w') => h3.ext (h.ext hE (by omega)))
  have HQ := Lib.hid (fun x (h : Bel W (w.heap.size + 1) x) => (⟨h.cell (Nat.lt_succ_self _) (cell_of_heap hb0 0), h.cell (Nat.lt_succ_self _) (cell_of_heap hb0 1), h.cell (Nat.lt_succ_self _) (cell_of_heap hb0 2), h.cell (Nat.lt_succ_self _) (cell_of_heap hb0 3), h.cell (Nat.lt_succ_self _) (cell_of_heap hb0 4)⟩ :
    x.cell? ⟨w.heap.size, 0, none⟩ = some (.slice p0 S.boxes.length c0) ∧ x.cell? ⟨w.heap.size, 1, none⟩ = some (.slice p1 S.stock.length c1) ∧ x.cell? ⟨w.heap.size, 2, none⟩ = some (.slice p2 S.earn.length c2) ∧ x.cell? ⟨w.heap.size, 3, none⟩ = some (.slice p3 S.keeps.length c3) ∧ x.cell? ⟨w.heap.size, 4, none⟩ = some (.int .i64 S.changes)))
  have HZ := Lib.hid (fun x (h : Ext W x) => (⟨h.cell (cell_of_heap hb1 0), h.cell (cell_of_heap hb1 1), h.cell (cell_of_heap hb1 2), h.cell (cell_of_heap hb1 3), h.cell (cell_of_heap hb1 4), fun i => cell_frozen ((Below.block h _ (Array.getElem?_eq_some_iff.1 hb1).1).trans hb1) i⟩ :
    x.cell? ⟨w.heap.size + 1, 0, none⟩ = some (.slice none 0 0) ∧ x.cell? ⟨w.heap.size + 1, 1, none⟩ = some (.slice none 0 0) ∧ x.cell? ⟨w.heap.size + 1, 2, none⟩ = some (.slice none 0 0) ∧ x.cell? ⟨w.heap.size + 1, 3, none⟩ = some (.slice none 0 0) ∧ x.cell? ⟨w.heap.size + 1, 4, none⟩ = some (.int .i64 0) ∧ ∀ i, x.frozen? ⟨w.heap.size + 1, i, none⟩ = false))
  have HES := Lib.hid hE
  have HBB := Lib.hid hb1
  have HWS := Lib.hid hWs
  clear hW h0 h1 h2 h3 hb0 hb1 hr0 hr2 hWB hE hWs
  go_region_held3 (fun x => x.cell? ⟨w.heap.size, 0, none⟩ = some (.slice p0 S.boxes.length c0) ∧ x.cell? ⟨w.heap.size, 1, none⟩ = some (.slice p1 S.stock.length c1) ∧ x.cell? ⟨w.heap.size, 2, none⟩ = some (.slice p2 S.earn.length c2) ∧ x.cell? ⟨w.heap.size, 3, none⟩ = some (.slice p3 S.keeps.length c3) ∧ x.cell? ⟨w.heap.size, 4, none⟩ = some (.int .i64 S.changes))
    ((refine HQ.out _ ?_; repeat (first | exact HWB.out | refine Bel.alloc ?_ _ | refine Bel.drew ?_ | refine Bel.step ?_ (by assumption) | refine Bel.set ?_ (by omega))))
    (first
      | (go_at_call_of 30 (Value.slice p0 S.boxes.length c0); refine (HB.out _ (by repeat (first | exact HWB.out | refine Bel.alloc ?_ _ | refine Bel.drew ?_ | refine Bel.step ?_ (by assumption) | refine Bel.set ?_ (by omega)))).mono ?_; rintro e w1 ⟨u1, k1, g1, cc1, rfl, hE1, hR1⟩; have hS1 := Stp.mk hE1; have HR1 := Lib.hid hR1; clear hE1 hR1)
      | (go_at_call_of 30 (Value.slice p2 S.earn.length c2); refine (HC.out _ (by repeat (first | exact HWB.out | refine Bel.alloc ?_ _ | refine Bel.drew ?_ | refine Bel.step ?_ (by assumption) | refine Bel.set ?_ (by omega)))).mono ?_; rintro e w3 ⟨u3, k3, g3, cc3, rfl, hE3, hR3⟩; have hS3 := Stp.mk hE3; have HR3 := Lib.hid hR3; clear hE3 hR3)
      | (refine step_row_of rfl (.tmp 6) (.tmp 8) rfl _ rfl p1 S.stock c1 rfl (by repeat (first | exact World.ownsRow_made _ #[] 0 (Nat.le_refl _) (by decide) rfl | exact own_made2 _ _ _ _ | refine World.ownsRow.alloc ?_ _ | refine ownsRow_step ?_ (by assumption))) (HI.out _ (by repeat (first | exact HWB.out | refine Bel.alloc ?_ _ | refine Bel.drew ?_ | refine Bel.step ?_ (by assumption) | refine Bel.set ?_ (by omega)))) h1' ?_; intro g2 cn2 w2 ho2 hE2 hat2 hlt2; have hS2 := Stp.mk hE2; have HO2 := Lib.hid ho2; have HA2 := Lib.hid hat2; have HL2 := Lib.hid hlt2; clear hE2 ho2 hat2 hlt2)
      | (refine step_pairs_of rfl (.tmp 13) (.tmp 15) rfl _ rfl p3 S.keeps c3 rfl (by repeat (first | exact World.ownsRow_made _ #[] 0 (Nat.le_refl _) (by decide) rfl | exact own_made2 _ _ _ _ | refine World.ownsRow.alloc ?_ _ | refine ownsRow_step ?_ (by assumption))) (HP.out _ (by repeat (first | exact HWB.out | refine Bel.alloc ?_ _ | refine Bel.drew ?_ | refine Bel.step ?_ (by assumption) | refine Bel.set ?_ (by omega)))) h3' ?_; intro g4 cn4 w4 ho4 hE4 hat4 hlt4; have hS4 := Stp.mk hE4; have HO4 := Lib.hid ho4; have HA4 := Lib.hid hat4; have HL4 := Lib.hid hlt4; have HZ4 := Lib.hid (HZ.out w4 (by repeat (first | exact Ext.refl _ | refine Ext.alloc ?_ _ | refine Ext.drew ?_ | refine Ext.trans ?_ (Stp.out (by assumption))))); have z0 := HZ4.out.1; have z1 := HZ4.out.2.1; have z2 := HZ4.out.2.2.1; have z3 := HZ4.out.2.2.2.1; have z4 := HZ4.out.2.2.2.2.1; have f0 := HZ4.out.2.2.2.2.2 0; have f1 := HZ4.out.2.2.2.2.2 1; have f2 := HZ4.out.2.2.2.2.2 2; have f3 := HZ4.out.2.2.2.2.2 3; have f4 := HZ4.out.2.2.2.2.2 4; clear hE4 ho4 hat4 hlt4))
  all_goals
    have ex1 := Ext.size (Stp.out hS1)
    have ex2 := Ext.size (Stp.out hS2)
    have ex3 := Ext.size (Stp.out hS3)
    have ex4 := Ext.size (Stp.out hS4)
    have exW := HWS.out
    try simp only [size_alloc] at ex1
    try simp only [size_drew] at ex1
    try simp only [size_alloc] at ex1
    try simp only [size_alloc] at ex2
    try simp only [size_drew] at ex2
    try simp only [size_alloc] at ex2
    try simp only [size_alloc] at ex3
    try simp only [size_drew] at ex3
    try simp only [size_alloc] at ex3
    try simp only [size_alloc] at ex4
    try simp only [size_drew] at ex4
    try simp only [size_alloc] at ex4
    obtain ⟨w5, hw5, hco, hE5, hb5⟩ := clone_fin HES.out HWS.out HBB.out HR1.out HR3.out HO2.out HA2.out HO4.out HA4.out (by repeat (first | exact Ext.refl _ | refine Ext.alloc ?_ _ | refine Ext.drew ?_ | refine Ext.trans ?_ (Stp.out (by assumption)))) (by repeat (first | exact Ext.refl _ | refine Ext.alloc ?_ _ | refine Ext.drew ?_ | refine Ext.trans ?_ (Stp.out (by assumption)))) (by repeat (first | exact Ext.refl _ | refine Ext.alloc ?_ _ | refine Ext.drew ?_ | refine Ext.trans ?_ (Stp.out (by assumption)))) (by repeat (first | exact Ext.refl _ | refine Ext.alloc ?_ _ | refine Ext.drew ?_ | refine Ext.trans ?_ (Stp.out (by assumption)))) (by (try simp only [size_alloc]); (try simp only [size_drew]); (try simp only [size_alloc]); omega) (by (try simp only [size_alloc]); (try simp only [size_drew]); (try simp only [size_alloc]); omega) (by (try simp only [size_alloc]); (try simp only [size_drew]); (try simp only [size_alloc]); omega) (by (try simp only [size_alloc]); (try simp only [size_drew]); (try simp only [size_alloc]); omega) (by (try simp only [size_alloc]); (try simp only [size_drew]); (try simp only [size_alloc]); omega) (by (try simp only [size_alloc]); (try simp only [size_drew]); (try simp only [size_alloc]); omega) (by (try simp only [size_alloc]); (try simp only [size_drew]); (try simp only [size_alloc]); omega) (by (try simp only [size_alloc]); (try simp only [size_drew]); (try simp only [size_alloc]); omega) (by (try simp only [size_alloc]); (try simp only [size_drew]); (try simp only [size_alloc]); omega) (by (try simp only [size_alloc]); (try simp only [size_drew]); (try simp only [size_alloc]); omega) (by (try simp only [size_alloc]); (try simp only [size_drew]); (try simp only [size_alloc]); omega) (by (try simp only [size_alloc]); (try simp only [size_drew]); (try simp only [size_alloc]); omega) (by (try simp only [size_alloc]); (try simp only [size_drew]); (try simp only [size_alloc]); omega) (by (try simp only [size_alloc]); (try simp only [size_drew]); (try simp only [size_alloc]); omega) (by (try simp only [size_alloc]); (try simp only [size_drew]); (try simp only [size_alloc]); omega) (by (try simp only [size_alloc]); (try simp only [size_drew]); (try simp only [size_alloc]); omega)
    go_wp2
    rw [← hw5]
    refine bodyPost_ret (v := .agg #[.slice u1 S.boxes.length k1, .slice (some ⟨g2, 0, none⟩) S.stock.length cn2, .slice u3 S.earn.length k3, .slice (some ⟨g4, 0, none⟩) S.keeps.length cn4, .int .i64 S.changes]) ?_ rfl ⟨_, _, _, _, g1, cc1, g3, cc3, W.heap.size, rfl, hE5, by omega, hco⟩
    have e0 := cell_of_heap hb5 0
    have e1 := cell_of_heap hb5 1
    have e2 := cell_of_heap hb5 2
    have e3 := cell_of_heap hb5 3
    have e4 := cell_of_heap hb5 4
    simp at e0 e1 e2 e3 e4
    simp [results, Try.results16, go_sem, e0, e1, e2, e3, e4]
end Go.Proofs.Ytpgjkmjejpfkmaa
