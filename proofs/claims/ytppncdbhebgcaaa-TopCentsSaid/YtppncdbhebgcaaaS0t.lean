
/- The plain law of a contract, and the walks of package shares (as TA and TB of seat sw, for seat tp). -/
import Derived.Test.YtppncdbhebgcaaaXK
import Derived.Test.YtppncdbhebgcaaaCB
import Derived.StillTailTactics
import Derived.Deep.RegionWith
namespace Go.Proofs.Ytppncdbhebgcaaa
open Go.RowKit

theorem Ext.set {a b : World} {c o : Nat} {u : Value} (h : Ext a b) (h0 : a.heap.size ≤ c) : Ext a (b.setCell ⟨c, o, none⟩ u) := h.setCell (p := ⟨c, o, none⟩) h0 u
set_option maxHeartbeats 400000 in
theorem Within01 (n lo hi : Int) (w : World) :
    Calls Try.prog 37 #[.int .i64 n, .int .i64 lo, .int .i64 hi] w (RetQ (.bool (bP (lo ≤ n ∧ n ≤ hi))) w) := by
  go_enter Try.func37, Try.ntmps37
  by_cases h1 : lo ≤ n
  · by_cases h2 : n ≤ hi
    · go_wp2
      go_ret
      exact RetQ.t0 ⟨h1, h2⟩
    · go_wp2
      go_ret
      exact RetQ.f0 (by omega)
  · go_wp2
    go_ret
    exact RetQ.f0 (by omega)
/-- a clause of a contract -/
structure Cl where
  k : Int
  cents : Int
  part : Int
  more : Int
/-- a week that is being settled -/
structure Wk where
  op : Int
  ow : Int
  rp : Int
  rest : Int
  owed : Int
structure ClOK (c : Cl) : Prop where
  k : 1 ≤ c.k ∧ c.k ≤ 5
  cents : 0 ≤ c.cents ∧ c.cents ≤ 9999
  part : 0 ≤ c.part ∧ c.part ≤ 100
  more : 0 ≤ c.more ∧ c.more ≤ 100
structure WkOK (t : Int) (x : Wk) : Prop where
  op : 0 ≤ x.op
  ow : 0 ≤ x.ow
  rest : 0 ≤ x.rest
  owed : 0 ≤ x.owed ∧ x.owed ≤ 9999
  rp : 0 ≤ x.rp ∧ x.rp ≤ x.op
  sum : x.op + x.ow + x.rest = t
  top : t ≤ 9999
def fiveN (h : Int) : Int := h / 500 * 5
def ownW (n : Int) (x : Wk) : Wk := { x with ow := x.ow + n, rest := x.rest - n }
def opeW (n : Int) (x : Wk) : Wk := { x with op := x.op + n, rest := x.rest - n }
def repW (n : Int) (x : Wk) : Wk := { x with op := x.op + n, rest := x.rest - n, rp := x.rp + n, owed := x.owed - n }
/-- hundredths of cents that a clause of two steps gives -/
def stepsN (c : Cl) (rest : Int) : Int := c.part * min rest c.cents + c.more * (rest - min rest c.cents)
def giveN (c : Cl) (x : Wk) : Int :=
  if c.k = 1 then min x.rest c.cents else if c.k = 2 then min (min x.rest c.cents) x.owed else if c.k = 3 then fiveN (c.part * x.rest) else if c.k = 4 then fiveN (stepsN c x.rest) else min x.rest (max 0 (c.cents - x.ow))
def clW (x : Wk) (c : Cl) : Wk := if c.k = 1 then opeW (giveN c x) x else if c.k = 2 then repW (giveN c x) x else ownW (giveN c x) x
def runW (cs : List Cl) (x : Wk) : Wk := cs.foldl clW x
def startW (t loan : Int) : Wk := ⟨0, 0, 0, t, loan⟩
/-- the clauses that round -/
def rnd (c : Cl) : Bool := c.k == 3 || c.k == 4
theorem part_bd {p r : Int} (hp : 0 ≤ p ∧ p ≤ 100) (hr : 0 ≤ r) : 0 ≤ p * r ∧ p * r ≤ 100 * r := ⟨Int.mul_nonneg hp.1 hr, Int.mul_le_mul_of_nonneg_right hp.2 hr⟩
theorem steps_bd {c : Cl} (hc : ClOK c) {r : Int} (hr : 0 ≤ r) : 0 ≤ stepsN c r ∧ stepsN c r ≤ 100 * r := by
  have h1 := part_bd (r := min r c.cents) hc.part (by have := hc.cents; omega)
  have h2 := part_bd (r := r - min r c.cents) hc.more (by omega)
  unfold stepsN
  omega
theorem five_bd {h r : Int} (h0 : 0 ≤ h) (hr : h ≤ 100 * r) : 0 ≤ fiveN h ∧ fiveN h ≤ r := by
  unfold fiveN
  omega
theorem five_mono {h h' : Int} (hh : h ≤ h') : fiveN h ≤ fiveN h' := by
  unfold fiveN
  omega
theorem steps_mono {c : Cl} (hc : ClOK c) {r r' : Int} (h : r ≤ r') : stepsN c r ≤ stepsN c r' := by
  unfold stepsN
  have h1 : c.part * min r c.cents ≤ c.part * min r' c.cents := Int.mul_le_mul_of_nonneg_left (by omega) hc.part.1
  have h2 : c.more * (r - min r c.cents) ≤ c.more * (r' - min r' c.cents) := Int.mul_le_mul_of_nonneg_left (by omega) hc.more.1
  omega
theorem give_bd {c : Cl} (hc : ClOK c) {t : Int} {x : Wk} (h : WkOK t x) : 0 ≤ giveN c x ∧ giveN c x ≤ x.rest ∧ (c.k = 2 → giveN c x ≤ x.owed) := by
  have h1 := h.rest
  have h2 := h.owed
  have h3 := hc.cents
  unfold giveN
  split
  · refine ⟨by omega, by omega, fun h => by omega⟩
  · split
    · refine ⟨by omega, by omega, fun h => by omega⟩
    · split
      · have := part_bd hc.part h1
        have := five_bd this.1 this.2
        refine ⟨by omega, by omega, fun h => by omega⟩
      · split
        · have := steps_bd hc h1
          have := five_bd this.1 this.2
          refine ⟨by omega, by omega, fun h => by omega⟩
        · refine ⟨by omega, by omega, fun h => by omega⟩
theorem clW_ok {c : Cl} (hc : ClOK c) {t : Int} {x : Wk} (h : WkOK t x) : WkOK t (clW x c) := by
  obtain ⟨g1, g2, g3⟩ := give_bd hc h
  obtain ⟨h1, h2, h3, h4, h5, h6, h7⟩ := h
  unfold clW
  split
  · exact ⟨by show 0 ≤ x.op + _; omega, h2, by show 0 ≤ x.rest - _; omega, h4, ⟨h5.1, by show x.rp ≤ x.op + _; omega⟩, by show x.op + _ + x.ow + (x.rest - _) = t; omega, h7⟩
  · split
    · rename_i hk
      have := g3 hk
      exact ⟨by show 0 ≤ x.op + _; omega, h2, by show 0 ≤ x.rest - _; omega, ⟨by show 0 ≤ x.owed - _; omega, by show x.owed - _ ≤ 9999; omega⟩, ⟨by show 0 ≤ x.rp + _; omega, by show x.rp + _ ≤ x.op + _; omega⟩, by show x.op + _ + x.ow + (x.rest - _) = t; omega, h7⟩
    · exact ⟨h1, by show 0 ≤ x.ow + _; omega, by show 0 ≤ x.rest - _; omega, h4, h5, by show x.op + (x.ow + _) + (x.rest - _) = t; omega, h7⟩
theorem runW_ok (cs : List Cl) : (∀ c ∈ cs, ClOK c) → ∀ {t : Int} {x : Wk}, WkOK t x → WkOK t (runW cs x) := by
  induction cs with
  | nil => intro _ t x h; exact h
  | cons c r ih => intro hc t x h; exact ih (fun c hm => hc c (by simp [hm])) (clW_ok (hc c (by simp)) h)
theorem startW_ok {t loan : Int} (ht : 0 ≤ t ∧ t ≤ 9999) (hl : 0 ≤ loan ∧ loan ≤ 9999) : WkOK t (startW t loan) :=
  ⟨Int.le_refl _, Int.le_refl _, ht.1, hl, ⟨Int.le_refl _, Int.le_refl _⟩, by show 0 + 0 + t = t; omega, ht.2⟩
/-- two weeks beside each other, before a clause rounds -/
def RelA (x y : Wk) : Prop := x.rest ≤ y.rest ∧ x.ow ≤ y.ow ∧ y.owed ≤ x.owed
/-- and after it -/
def RelB (x y : Wk) : Prop := x.ow ≤ y.ow ∧ (x.rest = 0 ∨ (x.ow + x.rest ≤ y.ow + y.rest ∧ (y.rest = 0 ∨ y.owed ≤ x.owed)))
theorem RelA.b {x y : Wk} (h : RelA x y) : RelB x y := ⟨h.2.1, Or.inr ⟨by have := h.1; have := h.2.1; omega, Or.inr h.2.2⟩⟩
theorem relA_cl {c : Cl} (hc : ClOK c) {t t' : Int} {x y : Wk} (hx : WkOK t x) (hy : WkOK t' y) (h : RelA x y) (hr : rnd c = false) : RelA (clW x c) (clW y c) := by
  obtain ⟨h1, h2, h3⟩ := h
  have a1 := hx.rest
  have a2 := hy.rest
  have a3 := hc.cents
  have a4 := hx.owed
  have a5 := hy.owed
  simp only [rnd, Bool.or_eq_false_iff, beq_eq_false_iff_ne] at hr
  unfold clW giveN RelA
  by_cases k1 : c.k = 1
  · simp only [k1, if_true, opeW]
    refine ⟨by omega, by omega, by omega⟩
  · by_cases k2 : c.k = 2
    · simp only [k2, if_true, if_neg (by omega : ¬(2 : Int) = 1), repW]
      refine ⟨by omega, by omega, by omega⟩
    · simp only [if_neg k1, if_neg k2, if_neg hr.1, if_neg hr.2, ownW]
      refine ⟨by omega, by omega, by omega⟩
theorem relB_cl {c : Cl} (hc : ClOK c) {t t' : Int} {x y : Wk} (hx : WkOK t x) (hy : WkOK t' y) (h : RelB x y) (hr : rnd c = false) : RelB (clW x c) (clW y c) := by
  obtain ⟨h1, h2⟩ := h
  have a1 := hx.rest
  have a2 := hy.rest
  have a3 := hc.cents
  have a4 := hx.owed
  have a5 := hy.owed
  simp only [rnd, Bool.or_eq_false_iff, beq_eq_false_iff_ne] at hr
  unfold clW giveN RelB
  by_cases k1 : c.k = 1
  · simp only [k1, if_true, opeW]
    refine ⟨by omega, by omega⟩
  · by_cases k2 : c.k = 2
    · simp only [k2, if_true, if_neg (by omega : ¬(2 : Int) = 1), repW]
      refine ⟨by omega, by omega⟩
    · simp only [if_neg k1, if_neg k2, if_neg hr.1, if_neg hr.2, ownW]
      refine ⟨by omega, by omega⟩
theorem rel_rnd {c : Cl} (hc : ClOK c) {x y : Wk} (h : RelA x y) (hr : rnd c = true) : RelB (clW x c) (clW y c) := by
  obtain ⟨h1, h2, h3⟩ := h
  simp only [rnd, Bool.or_eq_true, beq_iff_eq] at hr
  have k1 : ¬c.k = 1 := by omega
  have k2 : ¬c.k = 2 := by omega
  unfold clW giveN RelB
  by_cases k3 : c.k = 3
  · have := five_mono (Int.mul_le_mul_of_nonneg_left h1 hc.part.1)
    simp only [k3, if_true, ownW]
    simp only [show ¬(3 : Int) = 1 from by omega, show ¬(3 : Int) = 2 from by omega, if_false]
    refine ⟨by omega, by omega⟩
  · have k4 : c.k = 4 := by omega
    have := five_mono (steps_mono hc h1)
    simp only [k4, if_true, ownW]
    simp only [show ¬(4 : Int) = 1 from by omega, show ¬(4 : Int) = 2 from by omega, show ¬(4 : Int) = 3 from by omega, if_false]
    refine ⟨by omega, by omega⟩
theorem rel_run (cs : List Cl) : (∀ c ∈ cs, ClOK c) → ∀ {t t' : Int} {x y : Wk}, WkOK t x → WkOK t' y → ((RelA x y → cs.countP rnd ≤ 1 → RelB (runW cs x) (runW cs y)) ∧ (RelB x y → cs.countP rnd = 0 → RelB (runW cs x) (runW cs y))) := by
  induction cs with
  | nil => intro _ t t' x y _ _; exact ⟨fun h _ => h.b, fun h _ => h⟩
  | cons c r ih =>
    intro hcs t t' x y hx hy
    have hc := hcs c (by simp)
    have hi := ih (fun c hm => hcs c (by simp [hm])) (clW_ok hc hx) (clW_ok hc hy)
    constructor
    · intro h hn
      by_cases hr : rnd c = true
      · rw [List.countP_cons_of_pos hr] at hn
        exact hi.2 (rel_rnd hc h hr) (by omega)
      · rw [List.countP_cons_of_neg hr] at hn
        exact hi.1 (relA_cl hc hx hy h (by simpa using hr)) hn
    · intro h hn
      by_cases hr : rnd c = true
      · rw [List.countP_cons_of_pos hr] at hn
        omega
      · rw [List.countP_cons_of_neg hr] at hn
        exact hi.2 (relB_cl hc hx hy h (by simpa using hr)) hn
/-- with more takings the owner gets no less -/
theorem owner_mono {cs : List Cl} (hcs : ∀ c ∈ cs, ClOK c) (h1 : cs.countP rnd ≤ 1) {loan t t' : Int} (hl : 0 ≤ loan ∧ loan ≤ 9999) (h0 : 0 ≤ t) (ht : t ≤ t') (ht' : t' ≤ 9999) :
    (runW cs (startW t loan)).ow ≤ (runW cs (startW t' loan)).ow :=
  ((rel_run cs hcs (startW_ok ⟨h0, by omega⟩ hl) (startW_ok ⟨by omega, ht'⟩ hl)).1 ⟨ht, Int.le_refl _, Int.le_refl _⟩ h1).1
/-- a week in memory -/
def WkAt (w : World) (b : Nat) (x : Wk) : Prop := w.heap[b]? = some (.cells #[.int .i64 x.op, .int .i64 x.ow, .int .i64 x.rp, .int .i64 x.rest, .int .i64 x.owed] 107 (0, 0))
/-- only block b may have been written -/
def Kept (b : Nat) (w w' : World) : Prop := w.grownBy w' (some b)
def StpT (a b : World) : Prop := Ext a b
theorem StpT.out {a b : World} (h : StpT a b) : Ext a b := h
theorem StpT.mk {a b : World} (h : Ext a b) : StpT a b := h
theorem Kept.refl (b : Nat) (w : World) : Kept b w w := World.grownBy.refl _ _
theorem Kept.trans {b : Nat} {w w' w'' : World} (h : Kept b w w') (k : Kept b w' w'') : Kept b w w'' :=
  ⟨k.os.trans h.os, k.tape.trans h.tape, k.output.trans h.output, Nat.le_trans h.size k.size, fun i hi hn => (k.block i (Nat.lt_of_lt_of_le hi h.size) hn).trans (h.block i hi hn)⟩
theorem Kept.ext {b : Nat} {w w' : World} (h : Ext w w') : Kept b w w' := ⟨h.os, h.tape, h.output, h.size, fun i hi _ => Below.block h i hi⟩
theorem Kept.drew {b : Nat} {w w' : World} (h : Kept b w w') : Kept b w w'.drew := h.trans (Kept.ext (Ext.refl _).drew)
theorem Kept.set {b : Nat} {w w' : World} (h : Kept b w w') (i : Nat) (u : Value) : Kept b w (w'.setCell ⟨b, i, none⟩ u) :=
  h.trans ⟨rfl, rfl, rfl, by simp, fun k _ hk => Below.heap_setCell w' ⟨b, i, none⟩ u k (fun e => hk (by rw [e]))⟩
theorem Kept.below {b : Nat} {w w' a : World} (h : Kept b w w') (ha : Ext a w) (hb : a.heap.size ≤ b) : Ext a w' := Below.grown ha h ha.size (fun k hk => by cases hk; exact hb)
set_option maxHeartbeats 800000 in
theorem owner09 (b : Nat) (x : Wk) (n : Int) (w : World) (h : WkAt w b x) (h1 : -9000000 ≤ x.ow + n ∧ x.ow + n ≤ 9000000) (h2 : -9000000 ≤ x.rest - n ∧ x.rest - n ≤ 9000000) :
    Calls Try.prog 56 #[.pointer (some ⟨b, 0, none⟩), .int .i64 n] w (fun e w' => e = .returned (.int .i64 n) ∧ WkAt w' b (ownW n x) ∧ Kept b w w') := by
  have hw1 : IntKind.i64.wrap (x.ow + n) = x.ow + n := IntWalk.i64_in _ (by omega)
  have hw2 : IntKind.i64.wrap (x.rest - n) = x.rest - n := IntWalk.i64_in _ (by omega)
  have c1 := cell_of_heap h 1
  have c3 := cell_of_heap h 3
  have f1 := cell_frozen h 1
  have f3 := cell_frozen h 3
  simp at c1 c3
  have HH := Lib.hid h
  clear h
  go_enter Try.func56, Try.ntmps56
  go_upto_region 1 with (fail)
  go_region
  all_goals
    go_wp2
    go_ret
    refine ⟨rfl, ?_, ?_⟩
    · exact heap_set (heap_set HH.out rfl) rfl
    · repeat (first | with_reducible exact Kept.refl _ _ | with_reducible refine Kept.drew ?_ | with_reducible refine Kept.set ?_ _ _)
set_option maxHeartbeats 800000 in
theorem oper09 (b : Nat) (x : Wk) (n : Int) (w : World) (h : WkAt w b x) (h1 : -9000000 ≤ x.op + n ∧ x.op + n ≤ 9000000) (h2 : -9000000 ≤ x.rest - n ∧ x.rest - n ≤ 9000000) :
    Calls Try.prog 58 #[.pointer (some ⟨b, 0, none⟩), .int .i64 n] w (fun e w' => e = .returned (.int .i64 n) ∧ WkAt w' b (opeW n x) ∧ Kept b w w') := by
  have hw1 : IntKind.i64.wrap (x.op + n) = x.op + n := IntWalk.i64_in _ (by omega)
  have hw2 : IntKind.i64.wrap (x.rest - n) = x.rest - n := IntWalk.i64_in _ (by omega)
  have c1 := cell_of_heap h 0
  have c3 := cell_of_heap h 3
  have f1 := cell_frozen h 0
  have f3 := cell_frozen h 3
  simp at c1 c3
  have HH := Lib.hid h
  clear h
  go_enter Try.func58, Try.ntmps58
  go_upto_region 1 with (fail)
  go_region
  all_goals
    go_wp2
    go_ret
    refine ⟨rfl, ?_, ?_⟩
    · exact heap_set (heap_set HH.out rfl) rfl
    · repeat (first | with_reducible exact Kept.refl _ _ | with_reducible refine Kept.drew ?_ | with_reducible refine Kept.set ?_ _ _)
/-- a clause as a value -/
def clV (c : Cl) : Value := .agg #[.int .i64 c.k, .int .i64 c.cents, .int .i64 c.part, .int .i64 c.more]
/-- what the function of a clause does -/
def ClPost (b : Nat) (x : Wk) (c : Cl) (w : World) (e : Ending) (w' : World) : Prop := e = .returned (.int .i64 (giveN c x)) ∧ WkAt w' b (clW x c) ∧ Kept b w w'
theorem wk_alloc {w : World} {b : Nat} {x : Wk} (h : WkAt w b x) (o : Obj) : WkAt (w.alloc o) b x := (Below.block (Ext.alloc (Ext.refl w) o) b (Array.getElem?_eq_some_iff.1 h).1).trans h
theorem wk_ext {w w' : World} {b : Nat} {x : Wk} (h : WkAt w b x) (hE : Ext w w') : WkAt w' b x := (Below.block hE b (Array.getElem?_eq_some_iff.1 h).1).trans h
theorem wk_lt {w : World} {b : Nat} {x : Wk} (h : WkAt w b x) : b < w.heap.size := (Array.getElem?_eq_some_iff.1 h).1
theorem five09 (h : Int) (w : World) (h0 : 0 ≤ h) (h1 : h ≤ 1000000) : Calls Try.prog 81 #[.int .i64 h] w (RetQ (.int .i64 (fiveN h)) w) := by
  have hq : h.tdiv 500 = h / 500 := Int.tdiv_eq_ediv_of_nonneg h0
  have hw1 : IntKind.i64.wrap (h / 500) = h / 500 := IntWalk.i64_in _ (by omega)
  have hw2 : IntKind.i64.wrap (h / 500 * 5) = h / 500 * 5 := IntWalk.i64_in _ (by omega)
  go_enter Try.func81, Try.ntmps81
  go_wp2
  go_ret
  exact RetQ.mk0
set_option maxRecDepth 20000 in
set_option maxHeartbeats 1600000 in
theorem rule1 (b : Nat) (x : Wk) (c : Cl) (t : Int) (w : World) (h : WkAt w b x) (hx : WkOK t x) (hc : ClOK c) (hk : c.k = 1) :
    Calls Try.prog 78 #[.pointer (some ⟨b, 0, none⟩), clV c] w (ClPost b x c w) := by
  unfold clV
  have hlt := wk_lt h
  have HX := Lib.hid hx
  have HC := Lib.hid hc
  have HK := Lib.hid hk
  clear hx hc hk
  go_enter Try.func78, Try.ntmps78
  go_upto_region 1 with (fail)
  have hn := heap_new w (.cells #[.int .i64 c.k, .int .i64 c.cents, .int .i64 c.part, .int .i64 c.more] 68)
  obtain ⟨W, hW⟩ : ∃ W, W = w.alloc (.cells #[.int .i64 c.k, .int .i64 c.cents, .int .i64 c.part, .int .i64 c.more] 68) := ⟨_, rfl⟩
  have hE : Ext w W := by rw [hW]; exact Ext.alloc (Ext.refl w) _
  have hwk := wk_ext h hE
  rw [← hW] at hn ⊢
  have q1 := cell_of_heap hn 1
  have q2 := cell_of_heap hn 2
  have q3 := cell_of_heap hn 3
  have c1 := cell_of_heap hwk 1
  have c3 := cell_of_heap hwk 3
  have c4 := cell_of_heap hwk 4
  simp at q1 q2 q3 c1 c3 c4
  have HE := Lib.hid hE
  have HWK := Lib.hid hwk
  clear hW hn hE hwk h
  go_still_tail 8, (by kernel_rfl)
  change wpList _ _ _ _ _ W.drew
  obtain ⟨w2, hw2⟩ : ∃ w2, w2 = W.drew := ⟨_, rfl⟩
  rw [← hw2]
  have HD := Lib.hid (by rw [hw2]; exact (Ext.refl W).drew : Ext W w2)
  clear hw2 c1 c3 c4 q1 q2 q3
  have hg := give_bd HC.out HX.out
  have hgn : giveN c x = (if c.cents < x.rest then c.cents else x.rest) := by unfold giveN; rw [if_pos HK.out, Int.min_def]; split <;> split <;> omega
  obtain ⟨n, hnn⟩ : ∃ n, n = (if c.cents < x.rest then c.cents else x.rest) := ⟨_, rfl⟩
  rw [← hnn] at hgn ⊢
  have hx1 := HX.out.op
  have hx2 := HX.out.sum
  have hx3 := HX.out.top
  have hx4 := HX.out.ow
  have hx5 := HX.out.rest
  have HOP := Lib.hid (oper09 b x n w2 (wk_ext HWK.out HD.out) (by omega) (by omega))
  have HG := Lib.hid hgn
  clear hg hgn hnn hx1 hx2 hx3 hx4 hx5
  go_wp2_with fail
  refine HOP.out.mono ?_
  rintro e w3 ⟨rfl, hw3, hk3⟩
  go_wp2
  go_ret
  refine ⟨by rw [HG.out]; rfl, ?_, (Kept.ext (HE.out.trans HD.out)).trans hk3⟩
  unfold clW
  rw [if_pos HK.out, HG.out]
  exact hw3
set_option maxRecDepth 20000 in
set_option maxHeartbeats 1600000 in
theorem rule2 (b : Nat) (x : Wk) (c : Cl) (t : Int) (w : World) (h : WkAt w b x) (hx : WkOK t x) (hc : ClOK c) (hk : c.k = 2) :
    Calls Try.prog 79 #[.pointer (some ⟨b, 0, none⟩), clV c] w (ClPost b x c w) := by
  unfold clV
  have hlt := wk_lt h
  have HX := Lib.hid hx
  have HC := Lib.hid hc
  have HK := Lib.hid hk
  clear hx hc hk
  go_enter Try.func79, Try.ntmps79
  go_upto_region 1 with (fail)
  have hn := heap_new w (.cells #[.int .i64 c.k, .int .i64 c.cents, .int .i64 c.part, .int .i64 c.more] 68)
  obtain ⟨W, hW⟩ : ∃ W, W = w.alloc (.cells #[.int .i64 c.k, .int .i64 c.cents, .int .i64 c.part, .int .i64 c.more] 68) := ⟨_, rfl⟩
  have hE : Ext w W := by rw [hW]; exact Ext.alloc (Ext.refl w) _
  have hwk := wk_ext h hE
  rw [← hW] at hn ⊢
  have q1 := cell_of_heap hn 1
  have q2 := cell_of_heap hn 2
  have q3 := cell_of_heap hn 3
  have c1 := cell_of_heap hwk 1
  have c3 := cell_of_heap hwk 3
  have c4 := cell_of_heap hwk 4
  simp at q1 q2 q3 c1 c3 c4
  have HE := Lib.hid hE
  have HWK := Lib.hid hwk
  clear hW hn hE hwk h
  go_still_tail 12, (by kernel_rfl)
  change wpList _ _ _ _ _ W.drew
  obtain ⟨w2, hw2⟩ : ∃ w2, w2 = W.drew := ⟨_, rfl⟩
  rw [← hw2]
  have HD := Lib.hid (by rw [hw2]; exact (Ext.refl W).drew : Ext W w2)
  clear hw2 c1 c3 c4 q1 q2 q3
  have hgb := give_bd HC.out HX.out
  obtain ⟨n, hnn⟩ : ∃ n, n = (if x.owed < (if c.cents < x.rest then c.cents else x.rest) then x.owed else (if c.cents < x.rest then c.cents else x.rest)) := ⟨_, rfl⟩
  have hgn : giveN c x = n := by unfold giveN; rw [if_neg (by have := HK.out; omega), if_pos HK.out, hnn, Int.min_def, Int.min_def]; repeat (first | omega | split)
  rw [← hnn]
  have hx1 := HX.out.op
  have hx2 := HX.out.sum
  have hx3 := HX.out.top
  have hx4 := HX.out.ow
  have hx5 := HX.out.rest
  have hx6 := HX.out.rp
  have hx7 := HX.out.owed
  have hgo := hgb.2.2 HK.out
  rw [hgn] at hgb hgo
  have HOP := Lib.hid (oper09 b x n w2 (wk_ext HWK.out HD.out) (by omega) (by omega))
  have HG := Lib.hid hgn
  have hw1 : IntKind.i64.wrap (x.rp + n) = x.rp + n := IntWalk.i64_in _ (by omega)
  have hw2 : IntKind.i64.wrap (x.owed - n) = x.owed - n := IntWalk.i64_in _ (by omega)
  have HW1 := Lib.hid hw1
  have HW2 := Lib.hid hw2
  clear hgb hgo hgn hnn hx1 hx2 hx3 hx4 hx5 hx6 hx7 hw1 hw2
  go_wp2_with fail
  refine HOP.out.mono ?_
  rintro e w3 ⟨rfl, hw3, hk3⟩
  have hw1 := HW1.out
  have hw2 := HW2.out
  have c2 := cell_of_heap hw3 2
  have c4 := cell_of_heap hw3 4
  have f2 := cell_frozen hw3 2
  have f4 := cell_frozen hw3 4
  simp [opeW] at c2 c4
  have HW3 := Lib.hid hw3
  have HK3 := Lib.hid hk3
  clear hw3 hk3
  go_upto_region 2 with (fail)
  go_region
  all_goals
    go_wp2
    go_ret
    refine ⟨by rw [HG.out]; rfl, ?_, ((Kept.ext (HE.out.trans HD.out)).trans HK3.out).trans ?_⟩
    · unfold clW
      rw [if_neg (by have := HK.out; omega), if_pos HK.out, HG.out]
      exact heap_set (heap_set HW3.out rfl) rfl
    · repeat (first | with_reducible exact Kept.refl _ _ | with_reducible refine Kept.drew ?_ | with_reducible refine Kept.set ?_ _ _)
set_option maxRecDepth 20000 in
set_option maxHeartbeats 1600000 in
theorem rule3 (b : Nat) (x : Wk) (c : Cl) (t : Int) (w : World) (h : WkAt w b x) (hx : WkOK t x) (hc : ClOK c) (hk : c.k = 3) :
    Calls Try.prog 80 #[.pointer (some ⟨b, 0, none⟩), clV c] w (ClPost b x c w) := by
  unfold clV
  have hlt := wk_lt h
  have HX := Lib.hid hx
  have HC := Lib.hid hc
  have HK := Lib.hid hk
  clear hx hc hk
  go_enter Try.func80, Try.ntmps80
  go_upto_region 1 with (fail)
  have hn := heap_new w (.cells #[.int .i64 c.k, .int .i64 c.cents, .int .i64 c.part, .int .i64 c.more] 68)
  obtain ⟨W, hW⟩ : ∃ W, W = w.alloc (.cells #[.int .i64 c.k, .int .i64 c.cents, .int .i64 c.part, .int .i64 c.more] 68) := ⟨_, rfl⟩
  have hE : Ext w W := by rw [hW]; exact Ext.alloc (Ext.refl w) _
  have hwk := wk_ext h hE
  rw [← hW] at hn ⊢
  have q1 := cell_of_heap hn 1
  have q2 := cell_of_heap hn 2
  have q3 := cell_of_heap hn 3
  have c1 := cell_of_heap hwk 1
  have c3 := cell_of_heap hwk 3
  have c4 := cell_of_heap hwk 4
  simp at q1 q2 q3 c1 c3 c4
  have HE := Lib.hid hE
  have HWK := Lib.hid hwk
  clear hW hn hE hwk h
  have hpb := part_bd HC.out.part HX.out.rest
  have hrt : x.rest ≤ 9999 := by have := HX.out.op; have := HX.out.sum; have := HX.out.top; have := HX.out.ow; omega
  have hwp : IntKind.i64.wrap (c.part * x.rest) = c.part * x.rest := IntWalk.i64_in _ (by omega)
  have HF5 := Lib.hid (fun w' => five09 (c.part * x.rest) w' hpb.1 (by omega))
  clear hpb hrt
  obtain ⟨n, hnn⟩ : ∃ n, n = fiveN (c.part * x.rest) := ⟨_, rfl⟩
  have hgn : giveN c x = n := by unfold giveN; rw [if_neg (by have := HK.out; omega), if_neg (by have := HK.out; omega), if_pos HK.out, hnn]
  rw [← hnn] at HF5
  have hgb := give_bd HC.out HX.out
  rw [hgn] at hgb
  have hx1 := HX.out.op
  have hx2 := HX.out.sum
  have hx3 := HX.out.top
  have hx4 := HX.out.ow
  have hx5 := HX.out.rest
  have HOP := Lib.hid (fun (w5 : World) (hE5 : Ext W w5) => owner09 b x n w5 (wk_ext HWK.out hE5) (by omega) (by omega))
  have HG := Lib.hid hgn
  clear hgb hgn hnn hx1 hx2 hx3 hx4 hx5
  go_region_with (first
    | (go_at_call 81; refine (HF5.out _).mono ?_; rintro e w5 ⟨rfl, hQ5⟩; have hS5 := StpT.mk (Qt.ext hQ5); clear hQ5)
    | (go_at_call 56; refine (HOP.out _ (by repeat (first | with_reducible exact Ext.refl _ | with_reducible refine Ext.drew ?_ | with_reducible refine Ext.trans ?_ (StpT.out (by assumption))))).mono ?_; rintro e w3 ⟨rfl, hw3, hk3⟩; have HW3 := Lib.hid hw3; have hK : Kept b W w3 := Kept.trans (Kept.ext (by repeat (first | with_reducible exact Ext.refl _ | with_reducible refine Ext.drew ?_ | with_reducible refine Ext.trans ?_ (StpT.out (by assumption))))) hk3; have HK3 := Lib.hid hK; clear hK; clear hw3 hk3))
  all_goals
    go_wp2
    go_ret
    refine ⟨by rw [HG.out]; rfl, ?_, (Kept.ext HE.out).trans HK3.out⟩
    unfold clW
    rw [if_neg (by have := HK.out; omega), if_neg (by have := HK.out; omega), HG.out]
    exact HW3.out
set_option maxRecDepth 20000 in
set_option maxHeartbeats 1600000 in
theorem rule5 (b : Nat) (x : Wk) (c : Cl) (t : Int) (w : World) (h : WkAt w b x) (hx : WkOK t x) (hc : ClOK c) (hk : c.k = 5) :
    Calls Try.prog 83 #[.pointer (some ⟨b, 0, none⟩), clV c] w (ClPost b x c w) := by
  unfold clV
  have hlt := wk_lt h
  have HX := Lib.hid hx
  have HC := Lib.hid hc
  have HK := Lib.hid hk
  clear hx hc hk
  go_enter Try.func83, Try.ntmps83
  go_upto_region 1 with (fail)
  have hn := heap_new w (.cells #[.int .i64 c.k, .int .i64 c.cents, .int .i64 c.part, .int .i64 c.more] 68)
  obtain ⟨W, hW⟩ : ∃ W, W = w.alloc (.cells #[.int .i64 c.k, .int .i64 c.cents, .int .i64 c.part, .int .i64 c.more] 68) := ⟨_, rfl⟩
  have hE : Ext w W := by rw [hW]; exact Ext.alloc (Ext.refl w) _
  have hwk := wk_ext h hE
  rw [← hW] at hn ⊢
  have q1 := cell_of_heap hn 1
  have q2 := cell_of_heap hn 2
  have q3 := cell_of_heap hn 3
  have c1 := cell_of_heap hwk 1
  have c3 := cell_of_heap hwk 3
  have c4 := cell_of_heap hwk 4
  simp at q1 q2 q3 c1 c3 c4
  have HE := Lib.hid hE
  have HWK := Lib.hid hwk
  clear hW hn hE hwk h
  have hwc : IntKind.i64.wrap (c.cents - x.ow) = c.cents - x.ow := IntWalk.i64_in _ (by have := HC.out.cents; have := HX.out.op; have := HX.out.sum; have := HX.out.top; have := HX.out.ow; have := HX.out.rest; omega)
  go_still_tail 15, (by kernel_rfl)
  change wpList _ _ _ _ _ W.drew
  obtain ⟨w2, hw2⟩ : ∃ w2, w2 = W.drew := ⟨_, rfl⟩
  rw [← hw2]
  have HD := Lib.hid (by rw [hw2]; exact (Ext.refl W).drew : Ext W w2)
  clear hwc hw2 c1 c3 c4 q1 q2 q3
  have hgb := give_bd HC.out HX.out
  obtain ⟨n, hnn⟩ : ∃ n, n = (if (if x.ow < c.cents then c.cents - x.ow else 0) < x.rest then (if x.ow < c.cents then c.cents - x.ow else 0) else x.rest) := ⟨_, rfl⟩
  have hgn : giveN c x = n := by unfold giveN; rw [if_neg (by have := HK.out; omega), if_neg (by have := HK.out; omega), if_neg (by have := HK.out; omega), if_neg (by have := HK.out; omega), hnn, Int.min_def, Int.max_def]; repeat (first | omega | split)
  rw [← hnn]
  obtain ⟨mx, hmx⟩ : ∃ mx, mx = (if x.ow < c.cents then c.cents - x.ow else 0) := ⟨_, rfl⟩
  rw [← hmx]
  clear hmx
  have hx1 := HX.out.op
  have hx2 := HX.out.sum
  have hx3 := HX.out.top
  have hx4 := HX.out.ow
  have hx5 := HX.out.rest
  have hx6 := HX.out.rp
  have hx7 := HX.out.owed
  rw [hgn] at hgb
  have HOP := Lib.hid (owner09 b x n w2 (wk_ext HWK.out HD.out) (by omega) (by omega))
  have HG := Lib.hid hgn
  clear hgb hgn hnn hx1 hx2 hx3 hx4 hx5 hx6 hx7
  go_wp2_with fail
  refine HOP.out.mono ?_
  rintro e w3 ⟨rfl, hw3, hk3⟩
  go_wp2
  go_ret
  refine ⟨by rw [HG.out]; rfl, ?_, (Kept.ext (HE.out.trans HD.out)).trans hk3⟩
  unfold clW
  rw [if_neg (by have := HK.out; omega), if_neg (by have := HK.out; omega), HG.out]
  exact hw3
set_option maxRecDepth 20000 in
set_option maxHeartbeats 1600000 in
theorem rule4 (b : Nat) (x : Wk) (c : Cl) (t : Int) (w : World) (h : WkAt w b x) (hx : WkOK t x) (hc : ClOK c) (hk : c.k = 4) :
    Calls Try.prog 82 #[.pointer (some ⟨b, 0, none⟩), clV c] w (ClPost b x c w) := by
  unfold clV
  have hlt := wk_lt h
  have HX := Lib.hid hx
  have HC := Lib.hid hc
  have HK := Lib.hid hk
  clear hx hc hk
  go_enter Try.func82, Try.ntmps82
  go_upto_region 1 with (fail)
  have hn := heap_new w (.cells #[.int .i64 c.k, .int .i64 c.cents, .int .i64 c.part, .int .i64 c.more] 68)
  obtain ⟨W, hW⟩ : ∃ W, W = w.alloc (.cells #[.int .i64 c.k, .int .i64 c.cents, .int .i64 c.part, .int .i64 c.more] 68) := ⟨_, rfl⟩
  have hE : Ext w W := by rw [hW]; exact Ext.alloc (Ext.refl w) _
  have hwk := wk_ext h hE
  rw [← hW] at hn ⊢
  have q1 := cell_of_heap hn 1
  have q2 := cell_of_heap hn 2
  have q3 := cell_of_heap hn 3
  have c1 := cell_of_heap hwk 1
  have c3 := cell_of_heap hwk 3
  have c4 := cell_of_heap hwk 4
  simp at q1 q2 q3 c1 c3 c4
  have HE := Lib.hid hE
  have HWK := Lib.hid hwk
  clear hW hn hE hwk h
  have hrt : x.rest ≤ 9999 := by have := HX.out.op; have := HX.out.sum; have := HX.out.top; have := HX.out.ow; omega
  have hr0 := HX.out.rest
  have hcc := HC.out.cents
  have hpb := steps_bd HC.out hr0
  have hmn : (if c.cents < x.rest then c.cents else x.rest) = min x.rest c.cents := by rw [Int.min_def]; split <;> split <;> omega
  obtain ⟨lo, hlo⟩ : ∃ lo, lo = min x.rest c.cents := ⟨_, rfl⟩
  have hl0 : 0 ≤ lo ∧ lo ≤ x.rest := by rw [hlo]; omega
  have h1 := part_bd HC.out.part hl0.1
  have h2 := part_bd HC.out.more (r := x.rest - lo) (by omega)
  have hst : stepsN c x.rest = c.part * lo + c.more * (x.rest - lo) := by rw [hlo]; rfl
  rw [← hlo] at hmn
  rw [hst] at hpb
  have hwa : IntKind.i64.wrap (c.part * lo) = c.part * lo := IntWalk.i64_in _ (by omega)
  have hwb : IntKind.i64.wrap (x.rest - lo) = x.rest - lo := IntWalk.i64_in _ (by omega)
  have hwc : IntKind.i64.wrap (c.more * (x.rest - lo)) = c.more * (x.rest - lo) := IntWalk.i64_in _ (by omega)
  have hwd : IntKind.i64.wrap (c.part * lo + c.more * (x.rest - lo)) = c.part * lo + c.more * (x.rest - lo) := IntWalk.i64_in _ (by omega)
  have HF5 := Lib.hid (fun w' => five09 (c.part * lo + c.more * (x.rest - lo)) w' hpb.1 (by omega))
  obtain ⟨n, hnn⟩ : ∃ n, n = fiveN (c.part * lo + c.more * (x.rest - lo)) := ⟨_, rfl⟩
  have hgn : giveN c x = n := by unfold giveN; rw [if_neg (by have := HK.out; omega), if_neg (by have := HK.out; omega), if_neg (by have := HK.out; omega), if_pos HK.out, hnn, hst]
  rw [← hnn] at HF5
  have hgb := give_bd HC.out HX.out
  rw [hgn] at hgb
  have hx1 := HX.out.op
  have hx2 := HX.out.sum
  have hx3 := HX.out.top
  have hx4 := HX.out.ow
  have HOP := Lib.hid (fun (w5 : World) (hE5 : Ext W w5) => owner09 b x n w5 (wk_ext HWK.out hE5) (by omega) (by omega))
  have HG := Lib.hid hgn
  have HMN := Lib.hid hmn
  have HWA := Lib.hid hwa
  have HWB := Lib.hid hwb
  have HWC := Lib.hid hwc
  have HWD := Lib.hid hwd
  have HC3 := Lib.hid c3
  have HQ1 := Lib.hid q2
  have HQ2 := Lib.hid q3
  clear hgb hgn hnn hx1 hx2 hx3 hx4 hrt hr0 hcc hpb hlo hl0 h1 h2 hst hwa hwb hwc hwd hmn c1 c4
  go_region
  all_goals
    go_upto_region 2 with (fail)
    rw [HMN.out]
    have hwa := HWA.out
    have hwb := HWB.out
    have hwc := HWC.out
    have hwd := HWD.out
    go_region_with (first
      | (go_at_call 81; refine (HF5.out _).mono ?_; rintro e w5 ⟨rfl, hQ5⟩; have hS5 := StpT.mk (Qt.ext hQ5); clear hQ5)
      | (go_at_call 56; refine (HOP.out _ (by repeat (first | with_reducible exact Ext.refl _ | with_reducible refine Ext.drew ?_ | with_reducible refine Ext.trans ?_ (StpT.out (by assumption))))).mono ?_; rintro e w3 ⟨rfl, hw3, hk3⟩; have HW3 := Lib.hid hw3; have hK : Kept b W w3 := Kept.trans (Kept.ext (by repeat (first | with_reducible exact Ext.refl _ | with_reducible refine Ext.drew ?_ | with_reducible refine Ext.trans ?_ (StpT.out (by assumption))))) hk3; have HK3 := Lib.hid hK; clear hK; clear hw3 hk3))
    all_goals
      go_wp2
      go_ret
      refine ⟨by rw [HG.out]; rfl, ?_, (Kept.ext HE.out).trans HK3.out⟩
      unfold clW
      rw [if_neg (by have := HK.out; omega), if_neg (by have := HK.out; omega), HG.out]
      exact HW3.out
theorem rules1 (w : World) : Calls Try.prog 57 #[.int .i64 1] w (RetQ (.func (.func 78) #[] #[]) w) := by
  have hi : (Instr.index 141 (.agg #[.nilFunc, .func (.func 78) #[] #[], .func (.func 79) #[] #[], .func (.func 80) #[] #[], .func (.func 82) #[] #[], .func (.func 83) #[] #[]]) (.int .i64 1)).run Try.prog w = .ok (.func (.func 78) #[] #[]) w := by kernel_rfl
  go_enter Try.func57, Try.ntmps57
  go_wp2
  go_ret
  exact RetQ.mk0
theorem rules2 (w : World) : Calls Try.prog 57 #[.int .i64 2] w (RetQ (.func (.func 79) #[] #[]) w) := by
  have hi : (Instr.index 141 (.agg #[.nilFunc, .func (.func 78) #[] #[], .func (.func 79) #[] #[], .func (.func 80) #[] #[], .func (.func 82) #[] #[], .func (.func 83) #[] #[]]) (.int .i64 2)).run Try.prog w = .ok (.func (.func 79) #[] #[]) w := by kernel_rfl
  go_enter Try.func57, Try.ntmps57
  go_wp2
  go_ret
  exact RetQ.mk0
theorem rules3 (w : World) : Calls Try.prog 57 #[.int .i64 3] w (RetQ (.func (.func 80) #[] #[]) w) := by
  have hi : (Instr.index 141 (.agg #[.nilFunc, .func (.func 78) #[] #[], .func (.func 79) #[] #[], .func (.func 80) #[] #[], .func (.func 82) #[] #[], .func (.func 83) #[] #[]]) (.int .i64 3)).run Try.prog w = .ok (.func (.func 80) #[] #[]) w := by kernel_rfl
  go_enter Try.func57, Try.ntmps57
  go_wp2
  go_ret
  exact RetQ.mk0
theorem rules4 (w : World) : Calls Try.prog 57 #[.int .i64 4] w (RetQ (.func (.func 82) #[] #[]) w) := by
  have hi : (Instr.index 141 (.agg #[.nilFunc, .func (.func 78) #[] #[], .func (.func 79) #[] #[], .func (.func 80) #[] #[], .func (.func 82) #[] #[], .func (.func 83) #[] #[]]) (.int .i64 4)).run Try.prog w = .ok (.func (.func 82) #[] #[]) w := by kernel_rfl
  go_enter Try.func57, Try.ntmps57
  go_wp2
  go_ret
  exact RetQ.mk0
theorem rules5 (w : World) : Calls Try.prog 57 #[.int .i64 5] w (RetQ (.func (.func 83) #[] #[]) w) := by
  have hi : (Instr.index 141 (.agg #[.nilFunc, .func (.func 78) #[] #[], .func (.func 79) #[] #[], .func (.func 80) #[] #[], .func (.func 82) #[] #[], .func (.func 83) #[] #[]]) (.int .i64 5)).run Try.prog w = .ok (.func (.func 83) #[] #[]) w := by kernel_rfl
  go_enter Try.func57, Try.ntmps57
  go_wp2
  go_ret
  exact RetQ.mk0
theorem within09 (n lo hi : Int) (w : World) :
    Calls Try.prog 55 #[.int .i64 n, .int .i64 lo, .int .i64 hi] w (RetQ (.bool (bP (lo ≤ n ∧ n ≤ hi))) w) := by
  go_enter Try.func55, Try.ntmps55
  by_cases h1 : lo ≤ n
  · by_cases h2 : n ≤ hi
    · have d1 : decide (lo ≤ n) = true := by simpa using h1
      have d2 : decide (n ≤ hi) = true := by simpa using h2
      go_wp2
      go_ret
      exact RetQ.t ⟨h1, h2⟩ 0
    · have d1 : decide (lo ≤ n) = true := by simpa using h1
      have d2 : decide (n ≤ hi) = false := by simpa using h2
      go_wp2
      go_ret
      exact RetQ.f (by omega) 0
  · have d1 : decide (lo ≤ n) = false := by simpa using h1
    go_wp2
    go_ret
    exact RetQ.f (by omega) 0
theorem isCents09 (n : Int) (w : World) : Calls Try.prog 39 #[.int .i64 n] w (RetQ (.bool (bP (0 ≤ n ∧ n ≤ 9999))) w) := by
  have HC := Lib.hid (within09 n 0 9999 w)
  go_enter Try.func39, Try.ntmps39
  go_wp2_with fail
  refine HC.out.mono ?_
  rintro e w1 ⟨rfl, m, rfl⟩
  go_wp2
  go_ret
  exact RetQ.mk m
/-- the function of a clause -/
theorem pick09 (c : Cl) (hc : ClOK c) : ∃ g : Nat, (∀ w, Calls Try.prog 57 #[.int .i64 c.k] w (RetQ (.func (.func g) #[] #[]) w)) ∧ (∀ args w, (callFunc g args).run Try.prog w = .ok (.enter g args) w) ∧
    (∀ b x t w, WkAt w b x → WkOK t x → Calls Try.prog g #[.pointer (some ⟨b, 0, none⟩), clV c] w (ClPost b x c w)) := by
  obtain ⟨h1, h2⟩ := hc.k
  have hk : c.k = 1 ∨ c.k = 2 ∨ c.k = 3 ∨ c.k = 4 ∨ c.k = 5 := by omega
  rcases hk with h | h | h | h | h
  · exact ⟨78, fun w => by rw [h]; exact rules1 w, Try.call78, fun b x t w hw hx => rule1 b x c t w hw hx hc h⟩
  · exact ⟨79, fun w => by rw [h]; exact rules2 w, Try.call79, fun b x t w hw hx => rule2 b x c t w hw hx hc h⟩
  · exact ⟨80, fun w => by rw [h]; exact rules3 w, Try.call80, fun b x t w hw hx => rule3 b x c t w hw hx hc h⟩
  · exact ⟨82, fun w => by rw [h]; exact rules4 w, Try.call82, fun b x t w hw hx => rule4 b x c t w hw hx hc h⟩
  · exact ⟨83, fun w => by rw [h]; exact rules5 w, Try.call83, fun b x t w hw hx => rule5 b x c t w hw hx hc h⟩
/-- clauses in memory -/
def ClsAt (w : World) (p : Option Addr) (cs : List Cl) : Prop := ∀ i (h : i < cs.length), ∃ b o, p = some ⟨b, o, none⟩ ∧ w.cell? ⟨b, o + i * 4, none⟩ = some (.int .i64 cs[i].k) ∧ w.cell? ⟨b, o + i * 4 + 1, none⟩ = some (.int .i64 cs[i].cents) ∧
  w.cell? ⟨b, o + i * 4 + 2, none⟩ = some (.int .i64 cs[i].part) ∧ w.cell? ⟨b, o + i * 4 + 3, none⟩ = some (.int .i64 cs[i].more)
theorem ClsAt.ext {w w' : World} {p : Option Addr} {cs : List Cl} (h : ClsAt w p cs) (hE : Ext w w') : ClsAt w' p cs := by
  intro i hi
  obtain ⟨b, o, hp, h1, h2, h3, h4⟩ := h i hi
  exact ⟨b, o, hp, hE.cell h1, hE.cell h2, hE.cell h3, hE.cell h4⟩
theorem runW_snoc (cs : List Cl) (c : Cl) (x : Wk) : runW (cs ++ [c]) x = clW (runW cs x) c := by simp [runW]
def wkF (x : Wk) : Value := .agg #[.int .i64 x.op, .int .i64 x.ow, .int .i64 x.rp, .int .i64 x.rest, .int .i64 x.owed]
set_option maxRecDepth 20000 in
set_option maxHeartbeats 3200000 in
theorem settle09 (p : Option Addr) (cs : List Cl) (cap : Nat) (loan t : Int) (w : World) (hp : ClsAt w p cs) (hcs : ∀ c ∈ cs, ClOK c) (hl : cs.length ≤ 5) (ht : 0 ≤ t ∧ t ≤ 9999) (hlo : 0 ≤ loan ∧ loan ≤ 9999) :
    Calls Try.prog 40 #[.slice p cs.length cap, .int .i64 loan, .int .i64 t, .int .i64 0] w (fun e w' => ∃ u, e = .returned (.tuple #[wkF (opeW (runW cs (startW t loan)).rest (runW cs (startW t loan))), u]) ∧ Ext w w') := by
  have HCS := Lib.hid hcs
  have HP := Lib.hid hp
  have hok := startW_ok ht hlo
  have HOK := Lib.hid hok
  obtain ⟨i0, hi, hz0, hz1, hz2⟩ := info_parts info_a
  clear hcs hp
  go_enter Try.func40, Try.ntmps40
  go_upto_region 2 with (fail)
  have hn := heap_new w (.cells #[.int .i64 0, .int .i64 0, .int .i64 0, .int .i64 t, .int .i64 loan] 107)
  obtain ⟨W, hW⟩ : ∃ W, W = w.alloc (.cells #[.int .i64 0, .int .i64 0, .int .i64 0, .int .i64 t, .int .i64 loan] 107) := ⟨_, rfl⟩
  have hE : Ext w W := by rw [hW]; exact Ext.alloc (Ext.refl w) _
  rw [← hW] at hn ⊢
  have hwk : WkAt W w.heap.size (startW t loan) := hn
  obtain ⟨b, hb⟩ : ∃ b, b = w.heap.size := ⟨_, rfl⟩
  rw [← hb] at hwk ⊢
  have hif : (if t < 0 then t else 0) = 0 := if_neg (by omega)
  have HOW := Lib.hid (owner09 b (startW t loan) 0 W hwk (by show -9000000 ≤ (0 : Int) + 0 ∧ (0 : Int) + 0 ≤ 9000000; omega) (by show -9000000 ≤ t - 0 ∧ t - 0 ≤ 9000000; omega))
  have HE := Lib.hid hE
  have HB := Lib.hid hb
  have hWl := hE.size
  clear hW hn hE hwk hb
  go_wp2_with fail
  refine HOW.out.mono ?_
  rintro e w2 ⟨rfl, hw2, hk2⟩
  have hsame : ownW 0 (startW t loan) = startW t loan := by simp [ownW, startW]
  rw [hsame] at hw2
  have HW2 := Lib.hid hw2
  have HE2 := Lib.hid (hk2.below HE.out (by have := HB.out; omega))
  clear hw2 hk2 hsame hif HOW
  go_wp2
  go_loopw [9, 21] (fun u i wr => ∃ k : Nat, k ≤ cs.length ∧ i = .int .i64 k ∧ Ext w wr ∧ WkAt wr b (runW (cs.take k) (startW t loan)) ∧ ∃ xs, xs.length = k ∧ wr.ownsRow (b + 1) 3 1 u k xs) (fun _ i _ => cs.length - (intOf i).toNat)
  case atStart => exact ⟨0, by omega, rfl, HE2.out, HW2.out, [], rfl, World.ownsRow_nil _ _ _ _⟩
  case round =>
    clear HE2 HW2 w2
    obtain ⟨k, hk, rfl, hE, hwk, xs, hxs, hown⟩ := hrel
    have HE2 := Lib.hid hE
    have HWK := Lib.hid hwk
    have HO := Lib.hid hown
    by_cases hlt : k < cs.length
    · obtain ⟨b2, o2, he, k1, k2, k3, k4⟩ := HP.out.ext hE k hlt
      subst he
      obtain ⟨g, hg1, hg2, hg3⟩ := pick09 cs[k] (HCS.out _ (List.getElem_mem hlt))
      have hokk := runW_ok (cs.take k) (fun c hm => HCS.out c (List.mem_of_mem_take hm)) HOK.out
      have hsn := runW_snoc (cs.take k) cs[k] (startW t loan)
      rw [← List.take_succ_eq_append_getElem hlt] at hsn
      obtain ⟨c, hc⟩ : ∃ c, c = cs[k] := ⟨_, rfl⟩
      obtain ⟨x, hx⟩ : ∃ x, x = runW (cs.take k) (startW t loan) := ⟨_, rfl⟩
      rw [← hc] at k1 k2 k3 k4 hg1 hg3 hsn
      rw [← hx] at hwk hokk hsn
      have hbl := wk_lt hwk
      have HG1 := Lib.hid hg1
      have HG3 := Lib.hid (fun w' (h : WkAt w' b x) => hg3 b x t w' h hokk)
      have HSN := Lib.hid hsn
      have HX0 := Lib.hid hwk
      clear hE hwk hown hc hx hg1 hg3 hsn hokk HWK
      go_upto_region 6 with (fail)
      have hn := heap_new wr (.cells #[.int .i64 c.k, .int .i64 c.cents, .int .i64 c.part, .int .i64 c.more] 68)
      obtain ⟨W5, hW5⟩ : ∃ W5, W5 = wr.alloc (.cells #[.int .i64 c.k, .int .i64 c.cents, .int .i64 c.part, .int .i64 c.more] 68) := ⟨_, rfl⟩
      have hE5 : Ext wr W5 := by rw [hW5]; exact Ext.alloc (Ext.refl wr) _
      have hs5 : W5.heap.size = wr.heap.size + 1 := by rw [hW5]; simp
      rw [← hW5] at hn ⊢
      obtain ⟨H, hH⟩ : ∃ H, H = wr.heap.size := ⟨_, rfl⟩
      rw [← hH] at hn ⊢
      have hbH : b < H := by omega
      have HX := Lib.hid (Ext.refl W5)
      have HE5 := Lib.hid hE5
      have HS0 := Lib.hid (fun (z : World) (hz : Ext W5 z) => (⟨hz.cell ((cell_of_heap hn 0).trans rfl), hz.cell ((cell_of_heap hn 1).trans rfl), hz.cell ((cell_of_heap hn 2).trans rfl), hz.cell ((cell_of_heap hn 3).trans rfl)⟩ :
        z.cell? ⟨H, 0, none⟩ = some (.int .i64 c.k) ∧ z.cell? ⟨H, 1, none⟩ = some (.int .i64 c.cents) ∧ z.cell? ⟨H, 2, none⟩ = some (.int .i64 c.part) ∧ z.cell? ⟨H, 3, none⟩ = some (.int .i64 c.more)))
      have hbk : W5.heap.size = H + 1 := by omega
      have hHb : some H ≠ some b := fun e => by have := Option.some.inj e; omega
      have hlo9 := fun j (hj : u9.ownBlock = some j) => HO.out.lt j hj
      have hub : u9.ownBlock = none ∨ u9.ownBlock ≠ some b := Or.inr (fun e => by have := (hlo9 b e).1; omega)
      have hHu : some H ≠ u9.ownBlock := fun e => by have := (hlo9 H e.symm).2; omega
      have hbu : some b ≠ u9.ownBlock := fun e => by have := (hlo9 b e.symm).1; omega
      have hwb : w.heap.size ≤ b := by have := HB.out; omega
      have hul : ∀ j, u9.ownBlock = some j → w.heap.size ≤ j := fun j hj => by have := (hlo9 j hj).1; omega
      have hm1 : k + 1 ≤ maxLen := by unfold maxLen; omega
      have hm2 : (k + 1) * 8 ≤ 140737488355328 := by omega
      clear hlo9
      have HHH := Lib.hid hH
      clear hW5 hE5 hn k1 k2 k3 k4 hs5 hH
      go_region_held3 (fun z => z.cell? ⟨H, 0, none⟩ = some (.int .i64 c.k) ∧ z.cell? ⟨H, 1, none⟩ = some (.int .i64 c.cents) ∧ z.cell? ⟨H, 2, none⟩ = some (.int .i64 c.part) ∧ z.cell? ⟨H, 3, none⟩ = some (.int .i64 c.more))
        (first | exact HS8.out | (refine HS7.out _ ?_; repeat (first | with_reducible exact Ext.refl _ | with_reducible refine Ext.alloc ?_ _ | with_reducible refine Ext.drew ?_)) | (refine HS0.out _ ?_; repeat (first | with_reducible exact HX.out | with_reducible refine Ext.alloc ?_ _ | with_reducible refine Ext.drew ?_ | with_reducible refine Ext.trans ?_ (StpT.out (by assumption)))))
        (first
          | (go_at_call 57; refine (HG1.out _).mono ?_; rintro e w6 ⟨rfl, hQ6⟩; have hS6 := StpT.mk (Qt.ext hQ6); clear hQ6)
          | (refine guard_op (.call { callee := .builtin .append, args := #[.tmp 25, .tmp 31], argTypes := #[26, 26] }) ?_ ?_; exact rfl; refine step_append_lies _ rfl (.tmp 25) (.tmp 31) 26 rfl (b + 1) 3 i0 (.int .i64 0) 1 8 Try.underlying26 hi hz0 hz1 hz2 rfl (by decide) _ k xs rfl (ownsRow_ext HO7.out (by repeat (first | with_reducible exact Ext.refl _ | with_reducible refine Ext.alloc ?_ _ | with_reducible refine Ext.drew ?_))) ⟨_, 0, none⟩ 1 1 [.int .i64 (giveN c x)] rfl rfl ?_ ?_ (by decide) ?_ ?_ ?_ _ rfl ?_; exact hnewsE (by repeat (first | with_reducible exact Ext.refl _ | with_reducible refine Ext.alloc ?_ _ | with_reducible refine Ext.drew ?_)) (by first | with_reducible rfl | (simp only [size_alloc]; done) | (simp only [size_alloc]; omega) | omega); exact one_int _; exact hm1; exact hm2; exact Nat.le_trans hb7 (Ext.size (by repeat (first | with_reducible exact Ext.refl _ | with_reducible refine Ext.alloc ?_ _ | with_reducible refine Ext.drew ?_))); intro g8 cap8 w8 hown8 hgr8 hat8 hlt8; have HS8 := Lib.hid (⟨hgr8.cell (HS7.out _ (by repeat (first | with_reducible exact Ext.refl _ | with_reducible refine Ext.alloc ?_ _ | with_reducible refine Ext.drew ?_))).1 hHu, hgr8.cell (HS7.out _ (by repeat (first | with_reducible exact Ext.refl _ | with_reducible refine Ext.alloc ?_ _ | with_reducible refine Ext.drew ?_))).2.1 hHu, hgr8.cell (HS7.out _ (by repeat (first | with_reducible exact Ext.refl _ | with_reducible refine Ext.alloc ?_ _ | with_reducible refine Ext.drew ?_))).2.2.1 hHu, hgr8.cell (HS7.out _ (by repeat (first | with_reducible exact Ext.refl _ | with_reducible refine Ext.alloc ?_ _ | with_reducible refine Ext.drew ?_))).2.2.2 hHu⟩ : w8.cell? ⟨H, 0, none⟩ = some (.int .i64 c.k) ∧ w8.cell? ⟨H, 1, none⟩ = some (.int .i64 c.cents) ∧ w8.cell? ⟨H, 2, none⟩ = some (.int .i64 c.part) ∧ w8.cell? ⟨H, 3, none⟩ = some (.int .i64 c.more)); have hW8 : WkAt w8 b (clW x c) := (hgr8.block b (wk_lt (wk_ext HW7.out (by repeat (first | with_reducible exact Ext.refl _ | with_reducible refine Ext.alloc ?_ _ | with_reducible refine Ext.drew ?_)))) hbu).trans (wk_ext HW7.out (by repeat (first | with_reducible exact Ext.refl _ | with_reducible refine Ext.alloc ?_ _ | with_reducible refine Ext.drew ?_))); have HW8 := Lib.hid hW8; have hE8 : Ext w w8 := Below.grown (Ext.trans HE7.out (by repeat (first | with_reducible exact Ext.refl _ | with_reducible refine Ext.alloc ?_ _ | with_reducible refine Ext.drew ?_))) hgr8 (Ext.size (Ext.trans HE7.out (by repeat (first | with_reducible exact Ext.refl _ | with_reducible refine Ext.alloc ?_ _ | with_reducible refine Ext.drew ?_)))) hul; have HE8 := Lib.hid hE8; have HO8 := Lib.hid hown8; clear hown8 hgr8 hat8 hlt8 hW8 hE8)
          | (refine (HG3.out _ (wk_ext HX0.out (HE5.out.trans (by repeat (first | with_reducible exact HX.out | with_reducible refine Ext.alloc ?_ _ | with_reducible refine Ext.drew ?_ | with_reducible refine Ext.trans ?_ (StpT.out (by assumption))))))).mono ?_; rintro e w7 ⟨rfl, hw7, hk7⟩; have HS7 := Lib.hid (fun (z : World) (hz : Ext w7 z) => (⟨hz.cell (hk7.cell (HS0.out _ (by repeat (first | with_reducible exact HX.out | with_reducible refine Ext.alloc ?_ _ | with_reducible refine Ext.drew ?_ | with_reducible refine Ext.trans ?_ (StpT.out (by assumption))))).1 hHb), hz.cell (hk7.cell (HS0.out _ (by repeat (first | with_reducible exact HX.out | with_reducible refine Ext.alloc ?_ _ | with_reducible refine Ext.drew ?_ | with_reducible refine Ext.trans ?_ (StpT.out (by assumption))))).2.1 hHb), hz.cell (hk7.cell (HS0.out _ (by repeat (first | with_reducible exact HX.out | with_reducible refine Ext.alloc ?_ _ | with_reducible refine Ext.drew ?_ | with_reducible refine Ext.trans ?_ (StpT.out (by assumption))))).2.2.1 hHb), hz.cell (hk7.cell (HS0.out _ (by repeat (first | with_reducible exact HX.out | with_reducible refine Ext.alloc ?_ _ | with_reducible refine Ext.drew ?_ | with_reducible refine Ext.trans ?_ (StpT.out (by assumption))))).2.2.2 hHb)⟩ : z.cell? ⟨H, 0, none⟩ = some (.int .i64 c.k) ∧ z.cell? ⟨H, 1, none⟩ = some (.int .i64 c.cents) ∧ z.cell? ⟨H, 2, none⟩ = some (.int .i64 c.part) ∧ z.cell? ⟨H, 3, none⟩ = some (.int .i64 c.more))); have HO7 := Lib.hid (World.ownsRow.kept (ownsRow_ext HO.out (HE5.out.trans (by repeat (first | with_reducible exact HX.out | with_reducible refine Ext.alloc ?_ _ | with_reducible refine Ext.drew ?_ | with_reducible refine Ext.trans ?_ (StpT.out (by assumption)))))) hk7 hub); have HW7 := Lib.hid hw7; have hE7 : Ext w w7 := Kept.below hk7 (HE2.out.trans (HE5.out.trans (by repeat (first | with_reducible exact HX.out | with_reducible refine Ext.alloc ?_ _ | with_reducible refine Ext.drew ?_ | with_reducible refine Ext.trans ?_ (StpT.out (by assumption)))))) hwb; have HE7 := Lib.hid hE7; have hb7 : b + 1 ≤ w7.heap.size := wk_lt hw7; clear hw7 hk7 hE7))
      all_goals
        go_wp2
        go_roundw
        case rel => exact ⟨k + 1, by omega, by go_num, HE8.out, by rw [HSN.out]; exact HW8.out, xs ++ [.int .i64 (giveN c x)], by simp [hxs], HO8.out⟩
        case measure => simp [intOf]; omega
    · obtain rfl : k = cs.length := by omega
      rw [List.take_length] at hwk
      have hokk := runW_ok cs HCS.out HOK.out
      obtain ⟨x, hx⟩ : ∃ x, x = runW cs (startW t loan) := ⟨_, rfl⟩
      rw [← hx] at hwk hokk
      have HXX := Lib.hid hx
      obtain ⟨g1, g2, g3, g4, g5, g6, g7⟩ := hokk
      have HOP := Lib.hid (oper09 b x x.rest wr hwk (by omega) (by omega))
      have c3 := cell_of_heap hwk 3
      simp at c3
      have hwb : w.heap.size ≤ b := by have := HB.out; omega
      clear hwk hx g1 g2 g3 g4 g5 g6 g7 HWK hown HO
      go_wp2_with fail
      refine HOP.out.mono ?_
      rintro e w8 ⟨rfl, hw8, hk8⟩
      have HE8 := Lib.hid (Kept.below hk8 HE2.out hwb)
      have HW8 := Lib.hid hw8
      have e0 := cell_of_heap hw8 0
      have e1 := cell_of_heap hw8 1
      have e2 := cell_of_heap hw8 2
      have e3 := cell_of_heap hw8 3
      have e4 := cell_of_heap hw8 4
      have f0 := cell_frozen hw8 0
      have f1 := cell_frozen hw8 1
      have f2 := cell_frozen hw8 2
      have f3 := cell_frozen hw8 3
      have f4 := cell_frozen hw8 4
      simp at e0 e1 e2 e3 e4
      clear hw8 hk8 c3 hE
      go_wp2
      obtain ⟨y, hy⟩ : ∃ y, y = opeW x.rest x := ⟨_, rfl⟩
      have HW9 := HW8.out
      rw [← hy] at HW9 ⊢
      obtain ⟨W9, hW9⟩ : ∃ W9, W9 = (((((w8.setCell ⟨b, 0, none⟩ (.int .i64 y.op)).setCell ⟨b, 1, none⟩ (.int .i64 y.ow)).setCell ⟨b, 2, none⟩ (.int .i64 y.rp)).setCell ⟨b, 3, none⟩ (.int .i64 y.rest)).setCell ⟨b, 4, none⟩ (.int .i64 y.owed)) := ⟨_, rfl⟩
      have hb9 : WkAt W9 b y := by rw [hW9]; exact heap_set (heap_set (heap_set (heap_set (heap_set HW9 rfl) rfl) rfl) rfl) rfl
      have hE9 : Ext w W9 := by rw [hW9]; exact Ext.set (Ext.set (Ext.set (Ext.set (Ext.set HE8.out hwb) hwb) hwb) hwb) hwb
      rw [← hW9]
      refine bodyPost_ret (v := .tuple #[wkF y, u9]) ?_ rfl ⟨u9, by rw [hy, HXX.out], hE9⟩
      have a0 := cell_of_heap hb9 0
      have a1 := cell_of_heap hb9 1
      have a2 := cell_of_heap hb9 2
      have a3 := cell_of_heap hb9 3
      have a4 := cell_of_heap hb9 4
      simp at a0 a1 a2 a3 a4
      simp [results, Try.results40, go_sem, a0, a1, a2, a3, a4, wkF]
set_option maxRecDepth 20000 in
set_option maxHeartbeats 1600000 in
theorem bad09 (c : Cl) (w : World) (hc : ClOK c) : Calls Try.prog 76 #[clV c] w (RetE (.bool false) w) := by
  unfold clV
  go_enter Try.func76, Try.ntmps76
  go_upto_region 1 with (fail)
  have hn := heap_new w (.cells #[.int .i64 c.k, .int .i64 c.cents, .int .i64 c.part, .int .i64 c.more] 68)
  obtain ⟨W, hW⟩ : ∃ W, W = w.alloc (.cells #[.int .i64 c.k, .int .i64 c.cents, .int .i64 c.part, .int .i64 c.more] 68) := ⟨_, rfl⟩
  have hE : Ext w W := by rw [hW]; exact Ext.alloc (Ext.refl w) _
  rw [← hW] at hn ⊢
  have q0 := ExtW.cell (v := .int .i64 c.k) (cell_of_heap hn 0)
  have q1 := ExtW.cell (v := .int .i64 c.cents) (cell_of_heap hn 1)
  have q2 := ExtW.cell (v := .int .i64 c.part) (cell_of_heap hn 2)
  have q3 := ExtW.cell (v := .int .i64 c.more) (cell_of_heap hn 3)
  have H1 := Lib.hid (fun x : ExtW W => ExtW.call (RetQ.e (RetQ.bt hc.k (within09 c.k 1 5 x.w))))
  have H2 := Lib.hid (fun x : ExtW W => ExtW.call (RetQ.e (RetQ.bt hc.cents (isCents09 c.cents x.w))))
  have H3 := Lib.hid (fun x : ExtW W => ExtW.call (RetQ.e (RetQ.bt hc.part (within09 c.part 0 100 x.w))))
  have H4 := Lib.hid (fun x : ExtW W => ExtW.call (RetQ.e (RetQ.bt hc.more (within09 c.more 0 100 x.w))))
  obtain ⟨x0, hx0⟩ := ExtW.of (Ext.refl W)
  clear hW hn hc
  conv => arg 5; rw [hx0]
  clear hx0
  go_wp2_with fail
  refine (H1.out _).mono ?_
  rintro e _ ⟨rfl, x1, rfl⟩
  go_wp2_with fail
  refine (H2.out _).mono ?_
  rintro e _ ⟨rfl, x2, rfl⟩
  go_wp2_with fail
  refine (H3.out _).mono ?_
  rintro e _ ⟨rfl, x3, rfl⟩
  go_wp2_with fail
  refine (H4.out _).mono ?_
  rintro e _ ⟨rfl, x4, rfl⟩
  go_wp2
  go_ret
  exact RetE.fin (hE.trans x4.h) rfl
theorem index09 (p : Option Addr) (cs : List Cl) (cap : Nat) (w : World) (hp : ClsAt w p cs) (hcs : ∀ c ∈ cs, ClOK c) (hl : cs.length ≤ 5) :
    Calls Try.prog 94 #[.slice p cs.length cap, .func (.func 76) #[] #[]] w (RetE (.int .i64 (-1)) w) := by
  have HF := Lib.hid (fun (x : ExtW w) k (h : k < cs.length) => ExtW.call (bad09 cs[k] x.w (hcs _ (List.getElem_mem h))))
  have hcall := Try.call76
  obtain ⟨x0, hx0⟩ := ExtW.of (Ext.refl w)
  go_enter Try.func94, Try.ntmps94
  clear hcs
  conv => arg 5; rw [hx0]
  clear hx0
  go_wp2
  go_loopw [8] (fun i wr => ∃ k : Nat, k ≤ cs.length ∧ i = .int .i64 k ∧ ∃ x : ExtW w, wr = x.w) (fun i _ => cs.length - (intOf i).toNat)
  case atStart => exact ⟨0, by omega, rfl, x0, rfl⟩
  case round =>
    obtain ⟨k, hk, rfl, x, rfl⟩ := hrel
    by_cases hlt : k < cs.length
    · obtain ⟨b, o, he, k1, k2, k3, k4⟩ := hp k hlt
      subst he
      have s1 := ExtW.cell k1
      have s2 := ExtW.cell k2
      have s3 := ExtW.cell k3
      have s4 := ExtW.cell k4
      have hC := HF.out
      replace hC := fun x => hC x k hlt
      obtain ⟨c, hc⟩ : ∃ c, c = cs[k] := ⟨_, rfl⟩
      rw [← hc] at hC s1 s2 s3 s4
      unfold clV at hC
      have HC := Lib.hid hC
      clear hC hc k1 k2 k3 k4
      go_wp2_with fail
      refine (HC.out _).mono ?_
      rintro e _ ⟨rfl, x2, rfl⟩
      go_wp2
      go_roundw
      case rel => exact ⟨k + 1, by omega, by go_num, x2, rfl⟩
      case measure => simp [intOf]; omega
    · obtain rfl : k = cs.length := by omega
      go_wp2
      go_ret
      exact RetE.fin x.h rfl
theorem contains09 (p : Option Addr) (cs : List Cl) (cap : Nat) (w : World) (hp : ClsAt w p cs) (hcs : ∀ c ∈ cs, ClOK c) (hl : cs.length ≤ 5) :
    Calls Try.prog 77 #[.slice p cs.length cap, .func (.func 76) #[] #[]] w (RetE (.bool false) w) := by
  have HC := Lib.hid (index09 p cs cap w hp hcs hl)
  go_enter Try.func77, Try.ntmps77
  go_wp2_with fail
  refine HC.out.mono ?_
  rintro e w2 ⟨rfl, hE⟩
  go_wp2
  go_ret
  exact RetE.fin hE rfl
/-- a contract that is valid -/
structure ShOK (cs : List Cl) (loan : Int) : Prop where
  len : cs.length ≤ 5
  cl : ∀ c ∈ cs, ClOK c
  loan : 0 ≤ loan ∧ loan ≤ 9999
set_option maxRecDepth 20000 in
set_option maxHeartbeats 1600000 in
theorem check09 (p : Option Addr) (cs : List Cl) (cap : Nat) (loan : Int) (w : World) (hp : ClsAt w p cs) (h : ShOK cs loan) : Calls Try.prog 54 #[.agg #[.slice p cs.length cap, .int .i64 loan]] w (RetE (.int .i64 0) w) := by
  have hl := h.len
  go_enter Try.func54, Try.ntmps54
  go_upto_region 1 with (fail)
  have hn := heap_new w (.cells #[.slice p cs.length cap, .int .i64 loan] 24)
  obtain ⟨W, hW⟩ : ∃ W, W = w.alloc (.cells #[.slice p cs.length cap, .int .i64 loan] 24) := ⟨_, rfl⟩
  have hE : Ext w W := by rw [hW]; exact Ext.alloc (Ext.refl w) _
  rw [← hW] at hn ⊢
  have q0 := ExtW.cell (v := .slice p cs.length cap) (cell_of_heap hn 0)
  have q1 := ExtW.cell (v := .int .i64 loan) (cell_of_heap hn 1)
  have H1 := Lib.hid (fun x : ExtW W => ExtW.call (contains09 p cs cap x.w (hp.ext (hE.trans x.h)) h.cl hl))
  have H2 := Lib.hid (fun x : ExtW W => ExtW.call (RetQ.e (RetQ.bt h.loan (isCents09 loan x.w))))
  have hd : decide ((5 : Int) < (cs.length : Int)) = false := by simp; omega
  obtain ⟨x0, hx0⟩ := ExtW.of (Ext.refl W)
  clear hW hn h hp
  conv => arg 5; rw [hx0]
  clear hx0
  go_wp2_with fail
  refine (H1.out _).mono ?_
  rintro e _ ⟨rfl, x1, rfl⟩
  go_wp2_with fail
  refine (H2.out _).mono ?_
  rintro e _ ⟨rfl, x2, rfl⟩
  go_wp2
  go_ret
  exact RetE.fin (hE.trans x2.h) rfl
theorem ask09 (p : Option Addr) (cs : List Cl) (cap : Nat) (loan : Int) (w : World) (hp : ClsAt w p cs) (h : ShOK cs loan) : Calls Try.prog 38 #[.agg #[.slice p cs.length cap, .int .i64 loan], .bool true] w (RetE (.int .i64 0) w) := by
  go_enter Try.func38, Try.ntmps38
  go_upto_region 1 with (fail)
  have hn := heap_new w (.cells #[.slice p cs.length cap, .int .i64 loan] 24)
  obtain ⟨W, hW⟩ : ∃ W, W = w.alloc (.cells #[.slice p cs.length cap, .int .i64 loan] 24) := ⟨_, rfl⟩
  have hE : Ext w W := by rw [hW]; exact Ext.alloc (Ext.refl w) _
  rw [← hW] at hn ⊢
  have q0 := ExtW.cell (v := .slice p cs.length cap) (cell_of_heap hn 0)
  have q1 := ExtW.cell (v := .int .i64 loan) (cell_of_heap hn 1)
  have H1 := Lib.hid (fun x : ExtW W => ExtW.call (check09 p cs cap loan x.w (hp.ext (hE.trans x.h)) h))
  obtain ⟨x0, hx0⟩ := ExtW.of (Ext.refl W)
  clear hW hn h hp
  conv => arg 5; rw [hx0]
  clear hx0
  go_wp2_with fail
  refine (H1.out _).mono ?_
  rintro e _ ⟨rfl, x1, rfl⟩
  go_wp2
  go_ret
  exact RetE.fin (hE.trans x1.h) rfl
/-- how a week is split -/
def splitV (cs : List Cl) (loan t : Int) : Value := .agg #[.int .i64 ((runW cs (startW t loan)).op + (runW cs (startW t loan)).rest), .int .i64 (runW cs (startW t loan)).ow, .int .i64 (runW cs (startW t loan)).rp]
set_option maxRecDepth 20000 in
set_option maxHeartbeats 1600000 in
theorem gift09 (p : Option Addr) (cs : List Cl) (cap : Nat) (loan t : Int) (w : World) (hp : ClsAt w p cs) (h : ShOK cs loan) (ht : 0 ≤ t ∧ t ≤ 9999) :
    Calls Try.prog 24 #[.agg #[.slice p cs.length cap, .int .i64 loan], .int .i64 t, .int .i64 0] w (RetE (.tuple #[splitV cs loan t, .int .i64 0]) w) := by
  go_enter Try.func24, Try.ntmps24
  go_upto_region 1 with (fail)
  have hn := heap_new1 w (.cells #[.slice p cs.length cap, .int .i64 loan] 24) (.cells #[.int .i64 0, .int .i64 0, .int .i64 0] 35)
  have hn2 := heap_new2 w (.cells #[.slice p cs.length cap, .int .i64 loan] 24) (.cells #[.int .i64 0, .int .i64 0, .int .i64 0] 35)
  obtain ⟨W, hW⟩ : ∃ W, W = (w.alloc (.cells #[.slice p cs.length cap, .int .i64 loan] 24)).alloc (.cells #[.int .i64 0, .int .i64 0, .int .i64 0] 35) := ⟨_, rfl⟩
  have hE : Ext w W := by rw [hW]; exact Ext.alloc (Ext.alloc (Ext.refl w) _) _
  rw [← hW] at hn hn2 ⊢
  have q0 := ExtW.cell (v := .slice p cs.length cap) (cell_of_heap hn 0)
  have q1 := ExtW.cell (v := .int .i64 loan) (cell_of_heap hn 1)
  have H1 := Lib.hid (fun x : ExtW W => ExtW.call (RetQ.e (RetQ.bt ht (isCents09 t x.w))))
  have H2 := Lib.hid (fun x : ExtW W => ExtW.call (RetQ.e (RetQ.bt (by omega : (0 : Int) ≤ 0 ∧ (0 : Int) ≤ 9999) (isCents09 0 x.w))))
  have H3 := Lib.hid (fun x : ExtW W => ExtW.call (ask09 p cs cap loan x.w (hp.ext (hE.trans x.h)) h))
  have H4 := Lib.hid (fun x : ExtW W => settle09 p cs cap loan t x.w (hp.ext (hE.trans x.h)) h.cl h.len ht h.loan)
  have HN2 := Lib.hid hn2
  have HE := Lib.hid hE
  obtain ⟨x0, hx0⟩ := ExtW.of (Ext.refl W)
  clear hW hn h hp hn2 hE
  conv => arg 5; rw [hx0]
  clear hx0
  refine wp_region_extW (by kernel_rfl) (by kernel_rfl) ?_
  repeat (go_big_quiet_step (first | (go_at_call 39; with_reducible exact H1.out _) | (go_at_call 39; with_reducible exact H2.out _) | (go_at_call 38; exact H3.out _)))
  refine wpQuiet_nil ?_
  rintro _ ⟨x2, rfl⟩
  go_wp2_with fail
  refine (H4.out _).mono ?_
  rintro e w3 ⟨u, rfl, hE3⟩
  have z2 := HN2.out
  have z3 := (Below.block (x2.h.trans hE3) _ (by exact (Array.getElem?_eq_some_iff.1 z2).1)).trans z2
  have HE3 := Lib.hid (x2.h.trans hE3)
  unfold wkF opeW
  obtain ⟨x, hx⟩ : ∃ x, x = runW cs (startW t loan) := ⟨_, rfl⟩
  have HX := Lib.hid hx
  rw [← hx]
  clear hx
  have hw0 : w.heap.size ≤ w.heap.size + 1 := Nat.le_succ _
  go_upto_region 5 with (fail)
  obtain ⟨W5, hW5⟩ : ∃ W5, W5 = w3.alloc (.cells #[.int .i64 (x.op + x.rest), .int .i64 x.ow, .int .i64 x.rp, .int .i64 0, .int .i64 x.owed] 107) := ⟨_, rfl⟩
  have z5 : W5.heap[w.heap.size + 1]? = some (.cells #[.int .i64 0, .int .i64 0, .int .i64 0] 35) := by rw [hW5]; exact (Below.block (Ext.alloc (Ext.refl w3) _) _ (Array.getElem?_eq_some_iff.1 z3).1).trans z3
  have y5 : W5.heap[w3.heap.size]? = some (.cells #[.int .i64 (x.op + x.rest), .int .i64 x.ow, .int .i64 x.rp, .int .i64 0, .int .i64 x.owed] 107) := by rw [hW5]; exact heap_new w3 _
  have hE5 : Ext W W5 := by rw [hW5]; exact Ext.alloc HE3.out _
  rw [← hW5]
  have c0 := cell_of_heap z5 0
  have c1 := cell_of_heap z5 1
  have c2 := cell_of_heap z5 2
  have f0 := cell_frozen z5 0
  have f1 := cell_frozen z5 1
  have f2 := cell_frozen z5 2
  have d0 := cell_of_heap y5 0
  have d1 := cell_of_heap y5 1
  have d2 := cell_of_heap y5 2
  simp at c0 c1 c2 d0 d1 d2
  have HZ5 := Lib.hid z5
  have HE5 := Lib.hid hE5
  clear hW5 z5 y5 hE5 z2 z3 hE3
  go_wp2
  obtain ⟨W6, hW6⟩ : ∃ W6, W6 = ((W5.setCell ⟨w.heap.size + 1, 0, none⟩ (.int .i64 (x.op + x.rest))).setCell ⟨w.heap.size + 1, 1, none⟩ (.int .i64 x.ow)).setCell ⟨w.heap.size + 1, 2, none⟩ (.int .i64 x.rp) := ⟨_, rfl⟩
  have z6 : W6.heap[w.heap.size + 1]? = some (.cells #[.int .i64 (x.op + x.rest), .int .i64 x.ow, .int .i64 x.rp] 35 (0, 0)) := by rw [hW6]; exact heap_set (heap_set (heap_set HZ5.out rfl) rfl) rfl
  have hE6 : Ext w W6 := by rw [hW6]; exact Ext.set (Ext.set (Ext.set (HE.out.trans HE5.out) hw0) hw0) hw0
  rw [← hW6]
  refine bodyPost_ret (v := .tuple #[.agg #[.int .i64 (x.op + x.rest), .int .i64 x.ow, .int .i64 x.rp], .int .i64 0]) ?_ rfl (RetE.fin hE6 (by rw [HX.out]; rfl))
  have a0 := cell_of_heap z6 0
  have a1 := cell_of_heap z6 1
  have a2 := cell_of_heap z6 2
  simp at a0 a1 a2
  simp [results, Try.results24, go_sem, a0, a1, a2]
set_option maxRecDepth 20000 in
set_option maxHeartbeats 1600000 in
theorem week09 (p : Option Addr) (cs : List Cl) (cap : Nat) (loan t : Int) (w : World) (hp : ClsAt w p cs) (h : ShOK cs loan) (ht : 0 ≤ t ∧ t ≤ 9999) :
    Calls Try.prog 9 #[.agg #[.slice p cs.length cap, .int .i64 loan], .int .i64 t] w (RetE (.tuple #[splitV cs loan t, .int .i64 0]) w) := by
  go_enter Try.func9, Try.ntmps9
  go_upto_region 1 with (fail)
  have hn := heap_new1 w (.cells #[.slice p cs.length cap, .int .i64 loan] 24) (.cells #[.int .i64 0, .int .i64 0, .int .i64 0] 35)
  have hn2 := heap_new2 w (.cells #[.slice p cs.length cap, .int .i64 loan] 24) (.cells #[.int .i64 0, .int .i64 0, .int .i64 0] 35)
  obtain ⟨W, hW⟩ : ∃ W, W = (w.alloc (.cells #[.slice p cs.length cap, .int .i64 loan] 24)).alloc (.cells #[.int .i64 0, .int .i64 0, .int .i64 0] 35) := ⟨_, rfl⟩
  have hE : Ext w W := by rw [hW]; exact Ext.alloc (Ext.alloc (Ext.refl w) _) _
  rw [← hW] at hn hn2 ⊢
  have q0 := ExtW.cell (v := .slice p cs.length cap) (cell_of_heap hn 0)
  have q1 := ExtW.cell (v := .int .i64 loan) (cell_of_heap hn 1)
  have H1 := Lib.hid (fun x : ExtW W => ExtW.call (gift09 p cs cap loan t x.w (hp.ext (hE.trans x.h)) h ht))
  have HN2 := Lib.hid hn2
  have HE := Lib.hid hE
  obtain ⟨x0, hx0⟩ := ExtW.of (Ext.refl W)
  clear hW hn h hp hn2 hE
  conv => arg 5; rw [hx0]
  clear hx0
  unfold splitV at H1
  obtain ⟨x, hx⟩ : ∃ x, x = runW cs (startW t loan) := ⟨_, rfl⟩
  have HX := Lib.hid hx
  rw [← hx] at H1
  clear hx
  have hw0 : w.heap.size ≤ w.heap.size + 1 := Nat.le_succ _
  go_wp2_with fail
  refine (H1.out _).mono ?_
  rintro e _ ⟨rfl, x1, rfl⟩
  have z5 := (Below.block x1.h _ (Array.getElem?_eq_some_iff.1 HN2.out).1).trans HN2.out
  have c0 := cell_of_heap z5 0
  have c1 := cell_of_heap z5 1
  have c2 := cell_of_heap z5 2
  have f0 := cell_frozen z5 0
  have f1 := cell_frozen z5 1
  have f2 := cell_frozen z5 2
  simp at c0 c1 c2
  have HZ5 := Lib.hid z5
  clear z5
  go_wp2
  obtain ⟨W6, hW6⟩ : ∃ W6, W6 = ((x1.w.setCell ⟨w.heap.size + 1, 0, none⟩ (.int .i64 (x.op + x.rest))).setCell ⟨w.heap.size + 1, 1, none⟩ (.int .i64 x.ow)).setCell ⟨w.heap.size + 1, 2, none⟩ (.int .i64 x.rp) := ⟨_, rfl⟩
  have z6 : W6.heap[w.heap.size + 1]? = some (.cells #[.int .i64 (x.op + x.rest), .int .i64 x.ow, .int .i64 x.rp] 35 (0, 0)) := by rw [hW6]; exact heap_set (heap_set (heap_set HZ5.out rfl) rfl) rfl
  have hE6 : Ext w W6 := by rw [hW6]; exact Ext.set (Ext.set (Ext.set (HE.out.trans x1.h) hw0) hw0) hw0
  rw [← hW6]
  refine bodyPost_ret (v := .tuple #[.agg #[.int .i64 (x.op + x.rest), .int .i64 x.ow, .int .i64 x.rp], .int .i64 0]) ?_ rfl (RetE.fin hE6 (by rw [HX.out]; rfl))
  have a0 := cell_of_heap z6 0
  have a1 := cell_of_heap z6 1
  have a2 := cell_of_heap z6 2
  simp at a0 a1 a2
  simp [results, Try.results9, go_sem, a0, a1, a2]
theorem rwithin09 (n lo hi : Int) (w : World) :
    Calls Try.prog 21 #[.int .i64 n, .int .i64 lo, .int .i64 hi] w (RetQ (.bool (bP (lo ≤ n ∧ n ≤ hi))) w) := by
  have HC := Lib.hid (Within01 n lo hi w)
  go_enter Try.func21, Try.ntmps21
  go_wp2_with fail
  refine HC.out.mono ?_
  rintro e w1 ⟨rfl, m, rfl⟩
  go_wp2
  go_ret
  exact RetQ.mk m
theorem risCents09 (n : Int) (w : World) : Calls Try.prog 6 #[.int .i64 n] w (RetQ (.bool (bP (0 ≤ n ∧ n ≤ 9999))) w) := by
  have HC := Lib.hid (rwithin09 n 0 9999 w)
  go_enter Try.func6, Try.ntmps6
  go_wp2_with fail
  refine HC.out.mono ?_
  rintro e w1 ⟨rfl, m, rfl⟩
  go_wp2
  go_ret
  exact RetQ.mk m
noncomputable def shChk (cs : List Cl) (loan : Int) : Int := if bP (ShOK cs loan) = true then 0 else 90
set_option maxRecDepth 20000 in
set_option maxHeartbeats 3200000 in
theorem rcheck09 (p : Option Addr) (cs : List Cl) (cap : Nat) (loan : Int) (w : World) (hp : ClsAt w p cs) (hl : cs.length ≤ 40) : Calls Try.prog 5 #[.agg #[.slice p cs.length cap, .int .i64 loan]] w (RetE (.int .i64 (shChk cs loan)) w) := by
  go_enter Try.func5, Try.ntmps5
  go_upto_region 1 with (fail)
  have hn := heap_new w (.cells #[.slice p cs.length cap, .int .i64 loan] 24)
  obtain ⟨W, hW⟩ : ∃ W, W = w.alloc (.cells #[.slice p cs.length cap, .int .i64 loan] 24) := ⟨_, rfl⟩
  have hE : Ext w W := by rw [hW]; exact Ext.alloc (Ext.refl w) _
  rw [← hW] at hn ⊢
  have q0 := ExtW.cell (v := .slice p cs.length cap) (cell_of_heap hn 0)
  have q1 := ExtW.cell (v := .int .i64 loan) (cell_of_heap hn 1)
  have HEW := Lib.hid hE
  have HP := Lib.hid (hp.ext hE)
  obtain ⟨x0, hx0⟩ := ExtW.of (Ext.refl W)
  clear hW hn hp hE
  conv => arg 5; rw [hx0]
  clear hx0
  by_cases h5 : cs.length ≤ 5
  case neg =>
    have hd : decide (5 < cs.length) = true := by simp; omega
    have hd2 : decide ((5 : Int) < (cs.length : Int)) = true := by simp; omega
    have H5 := Lib.hid h5
    clear h5
    go_wp2
    go_ret
    exact RetE.fin (HEW.out.trans x0.h) (by unfold shChk; rw [bP_f (fun h => H5.out h.len)]; rfl)
  have hd : decide (5 < cs.length) = false := by simp; omega
  have hd2 : decide ((5 : Int) < (cs.length : Int)) = false := by simp; omega
  by_cases hlo : 0 ≤ loan ∧ loan ≤ 9999
  case neg =>
    have HL := Lib.hid (fun x : ExtW W => ExtW.call (RetQ.e (RetQ.bf hlo (risCents09 loan x.w))))
    have HNO := Lib.hid hlo
    clear hlo
    go_wp2_with fail
    refine (HL.out _).mono ?_
    rintro e _ ⟨rfl, x1, rfl⟩
    go_wp2
    go_ret
    exact RetE.fin (HEW.out.trans x1.h) (by unfold shChk; rw [bP_f (fun h => HNO.out h.loan)]; rfl)
  have HL := Lib.hid (fun x : ExtW W => ExtW.call (RetQ.e (RetQ.bt hlo (risCents09 loan x.w))))
  have HLO := Lib.hid hlo
  clear hlo
  go_wp2_with fail
  refine (HL.out _).mono ?_
  rintro e _ ⟨rfl, x1, rfl⟩
  clear hd hd2
  go_wp2
  go_loopw [3] (fun i wr => ∃ k : Nat, k ≤ cs.length ∧ i = .int .i64 k ∧ (∀ c ∈ cs.take k, ClOK c) ∧ ∃ x : ExtW W, wr = x.w) (fun i _ => cs.length - (intOf i).toNat)
  case atStart => exact ⟨0, by omega, rfl, by simp, x1, rfl⟩
  case round =>
    obtain ⟨k, hk, rfl, hr, x, rfl⟩ := hrel
    have HR := Lib.hid hr
    clear hr
    by_cases hlt : k < cs.length
    · obtain ⟨b, o, he, k1, k2, k3, k4⟩ := HP.out.ext x.h k hlt
      subst he
      have hnx : ClOK cs[k] → ∀ c ∈ cs.take (k + 1), ClOK c := by
        intro h c hm
        rw [List.take_succ_eq_append_getElem hlt] at hm
        rcases List.mem_append.1 hm with h1 | h1
        · exact HR.out c h1
        · rw [List.mem_singleton.1 h1]; exact h
      have hmem : cs[k] ∈ cs := List.getElem_mem hlt
      obtain ⟨c, hc⟩ : ∃ c, c = cs[k] := ⟨_, rfl⟩
      rw [← hc] at k1 k2 k3 k4 hnx hmem
      have HNX := Lib.hid hnx
      have HMEM := Lib.hid hmem
      clear hc hnx hmem
      have hq0 := q0 x
      go_upto_region 7 with (fail)
      have hn := heap_new x.w (.cells #[.int .i64 c.k, .int .i64 c.cents, .int .i64 c.part, .int .i64 c.more] 68)
      obtain ⟨W5, hW5⟩ : ∃ W5, W5 = x.w.alloc (.cells #[.int .i64 c.k, .int .i64 c.cents, .int .i64 c.part, .int .i64 c.more] 68) := ⟨_, rfl⟩
      have hE5 : Ext x.w W5 := by rw [hW5]; exact Ext.alloc (Ext.refl x.w) _
      rw [← hW5] at hn ⊢
      have s0 := ExtW.cell (v := .int .i64 c.k) (cell_of_heap hn 0)
      have s1 := ExtW.cell (v := .int .i64 c.cents) (cell_of_heap hn 1)
      have s2 := ExtW.cell (v := .int .i64 c.part) (cell_of_heap hn 2)
      have s3 := ExtW.cell (v := .int .i64 c.more) (cell_of_heap hn 3)
      have HE5 := Lib.hid hE5
      obtain ⟨yy, hyy⟩ := ExtW.of (Ext.refl W5)
      clear hW5 hn hE5 k1 k2 k3 k4 hq0
      conv => arg 5; rw [hyy]
      clear hyy
      by_cases tK : 1 ≤ c.k ∧ c.k ≤ 5
      case neg =>
        have HK := Lib.hid (fun y : ExtW W5 => ExtW.call (RetQ.e (RetQ.bf tK (rwithin09 c.k 1 5 y.w))))
        have HNO := Lib.hid tK
        clear tK
        go_wp2_with fail
        refine (HK.out _).mono ?_
        rintro e _ ⟨rfl, y0, rfl⟩
        go_wp2
        go_ret
        exact RetE.fin ((HEW.out.trans x.h).trans (HE5.out.trans y0.h)) (by unfold shChk; rw [bP_f (fun h => HNO.out (h.cl c HMEM.out).k)]; rfl)
      have HK := Lib.hid (fun y : ExtW W5 => ExtW.call (RetQ.e (RetQ.bt tK (rwithin09 c.k 1 5 y.w))))
      have TK := Lib.hid tK
      clear tK
      by_cases tC : 0 ≤ c.cents ∧ c.cents ≤ 9999
      case neg =>
        have HC := Lib.hid (fun y : ExtW W5 => ExtW.call (RetQ.e (RetQ.bf tC (risCents09 c.cents y.w))))
        have HNO := Lib.hid tC
        clear tC
        go_wp2_with fail
        refine (HK.out _).mono ?_
        rintro e _ ⟨rfl, y0, rfl⟩
        go_wp2_with fail
        refine (HC.out _).mono ?_
        rintro e _ ⟨rfl, y1, rfl⟩
        go_wp2
        go_ret
        exact RetE.fin ((HEW.out.trans x.h).trans (HE5.out.trans y1.h)) (by unfold shChk; rw [bP_f (fun h => HNO.out (h.cl c HMEM.out).cents)]; rfl)
      have HC := Lib.hid (fun y : ExtW W5 => ExtW.call (RetQ.e (RetQ.bt tC (risCents09 c.cents y.w))))
      have TC := Lib.hid tC
      clear tC
      by_cases tP : 0 ≤ c.part ∧ c.part ≤ 100
      case neg =>
        have HP := Lib.hid (fun y : ExtW W5 => ExtW.call (RetQ.e (RetQ.bf tP (rwithin09 c.part 0 100 y.w))))
        have HNO := Lib.hid tP
        clear tP
        go_wp2_with fail
        refine (HK.out _).mono ?_
        rintro e _ ⟨rfl, y0, rfl⟩
        go_wp2_with fail
        refine (HC.out _).mono ?_
        rintro e _ ⟨rfl, y1, rfl⟩
        go_wp2_with fail
        refine (HP.out _).mono ?_
        rintro e _ ⟨rfl, y2, rfl⟩
        go_wp2
        go_ret
        exact RetE.fin ((HEW.out.trans x.h).trans (HE5.out.trans y2.h)) (by unfold shChk; rw [bP_f (fun h => HNO.out (h.cl c HMEM.out).part)]; rfl)
      have HP := Lib.hid (fun y : ExtW W5 => ExtW.call (RetQ.e (RetQ.bt tP (rwithin09 c.part 0 100 y.w))))
      have TP := Lib.hid tP
      clear tP
      by_cases tM : 0 ≤ c.more ∧ c.more ≤ 100
      case neg =>
        have HM := Lib.hid (fun y : ExtW W5 => ExtW.call (RetQ.e (RetQ.bf tM (rwithin09 c.more 0 100 y.w))))
        have HNO := Lib.hid tM
        clear tM
        go_wp2_with fail
        refine (HK.out _).mono ?_
        rintro e _ ⟨rfl, y0, rfl⟩
        go_wp2_with fail
        refine (HC.out _).mono ?_
        rintro e _ ⟨rfl, y1, rfl⟩
        go_wp2_with fail
        refine (HP.out _).mono ?_
        rintro e _ ⟨rfl, y2, rfl⟩
        go_wp2_with fail
        refine (HM.out _).mono ?_
        rintro e _ ⟨rfl, y3, rfl⟩
        go_wp2
        go_ret
        exact RetE.fin ((HEW.out.trans x.h).trans (HE5.out.trans y3.h)) (by unfold shChk; rw [bP_f (fun h => HNO.out (h.cl c HMEM.out).more)]; rfl)
      have HM := Lib.hid (fun y : ExtW W5 => ExtW.call (RetQ.e (RetQ.bt tM (rwithin09 c.more 0 100 y.w))))
      have TM := Lib.hid tM
      clear tM
      go_wp2_with fail
      refine (HK.out _).mono ?_
      rintro e _ ⟨rfl, y0, rfl⟩
      go_wp2_with fail
      refine (HC.out _).mono ?_
      rintro e _ ⟨rfl, y1, rfl⟩
      go_wp2_with fail
      refine (HP.out _).mono ?_
      rintro e _ ⟨rfl, y2, rfl⟩
      go_wp2_with fail
      refine (HM.out _).mono ?_
      rintro e _ ⟨rfl, y3, rfl⟩
      go_wp2
      go_roundw
      case rel => exact ⟨k + 1, by omega, by go_num, HNX.out ⟨TK.out, TC.out, TP.out, TM.out⟩, ⟨y3.w, x.h.trans (HE5.out.trans y3.h)⟩, rfl⟩
      case measure => simp [intOf]; omega
    · obtain rfl : k = cs.length := by omega
      rw [List.take_length] at HR
      go_wp2
      go_ret
      exact RetE.fin (HEW.out.trans x.h) (by unfold shChk; rw [bP_t ⟨h5, HR.out, HLO.out⟩]; rfl)
end Go.Proofs.Ytppncdbhebgcaaa
