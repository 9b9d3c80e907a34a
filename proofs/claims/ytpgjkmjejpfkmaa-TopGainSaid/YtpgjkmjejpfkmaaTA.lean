/- The plain law of a contract: with more takings the owner gets no less, if at most one clause rounds. The walks of package shares: what a week is, and what its clauses give. -/
import Derived.Test.YtpgjkmjejpfkmaaLib
import Derived.Test.YtpgjkmjejpfkmaaW07n
import Derived.StillTailTactics
import Derived.Deep.RegionWith
namespace Go.Proofs.Ytpgjkmjejpfkmaa
open Go.RowKit

/-- a clause of a contract -/
structure Cl where
  k : Int
  cents : Int
  part : Int
  more : Int
/-- a week that is being settled -/
structure Wk where
  op : Int
  ow : Int
  rp : Int
  rest : Int
  owed : Int
structure ClOK (c : Cl) : Prop where
  k : 1 ≤ c.k ∧ c.k ≤ 5
  cents : 0 ≤ c.cents ∧ c.cents ≤ 9999
  part : 0 ≤ c.part ∧ c.part ≤ 100
  more : 0 ≤ c.more ∧ c.more ≤ 100
structure WkOK (t : Int) (x : Wk) : Prop where
  op : 0 ≤ x.op
  ow : 0 ≤ x.ow
  rest : 0 ≤ x.rest
  owed : 0 ≤ x.owed ∧ x.owed ≤ 9999
  rp : 0 ≤ x.rp ∧ x.rp ≤ x.op
  sum : x.op + x.ow + x.rest = t
  top : t ≤ 9999
def fiveN (h : Int) : Int := h / 500 * 5
def ownW (n : Int) (x : Wk) : Wk := { x with ow := x.ow + n, rest := x.rest - n }
def opeW (n : Int) (x : Wk) : Wk := { x with op := x.op + n, rest := x.rest - n }
def repW (n : Int) (x : Wk) : Wk := { x with op := x.op + n, rest := x.rest - n, rp := x.rp + n, owed := x.owed - n }
/-- hundredths of cents that a clause of two steps gives -/
def stepsN (c : Cl) (rest : Int) : Int := c.part * min rest c.cents + c.more * (rest - min rest c.cents)
def giveN (c : Cl) (x : Wk) : Int :=
  if c.k = 1 then min x.rest c.cents else if c.k = 2 then min (min x.rest c.cents) x.owed else if c.k = 3 then fiveN (c.part * x.rest) else if c.k = 4 then fiveN (stepsN c x.rest) else min x.rest (max 0 (c.cents - x.ow))
def clW (x : Wk) (c : Cl) : Wk := if c.k = 1 then opeW (giveN c x) x else if c.k = 2 then repW (giveN c x) x else ownW (giveN c x) x
def runW (cs : List Cl) (x : Wk) : Wk := cs.foldl clW x
def startW (t loan : Int) : Wk := ⟨0, 0, 0, t, loan⟩
/-- the clauses that round -/
def rnd (c : Cl) : Bool := c.k == 3 || c.k == 4

theorem part_bd {p r : Int} (hp : 0 ≤ p ∧ p ≤ 100) (hr : 0 ≤ r) : 0 ≤ p * r ∧ p * r ≤ 100 * r := ⟨Int.mul_nonneg hp.1 hr, Int.mul_le_mul_of_nonneg_right hp.2 hr⟩
theorem steps_bd {c : Cl} (hc : ClOK c) {r : Int} (hr : 0 ≤ r) : 0 ≤ stepsN c r ∧ stepsN c r ≤ 100 * r := by
  have h1 := part_bd (r := min r c.cents) hc.part (by have := hc.cents; omega)
  have h2 := part_bd (r := r - min r c.cents) hc.more (by omega)
  unfold stepsN
  omega
theorem five_bd {h r : Int} (h0 : 0 ≤ h) (hr : h ≤ 100 * r) : 0 ≤ fiveN h ∧ fiveN h ≤ r := by
  unfold fiveN
  omega
theorem five_mono {h h' : Int} (hh : h ≤ h') : fiveN h ≤ fiveN h' := by
  unfold fiveN
  omega
theorem steps_mono {c : Cl} (hc : ClOK c) {r r' : Int} (h : r ≤ r') : stepsN c r ≤ stepsN c r' := by
  unfold stepsN
  have h1 : c.part * min r c.cents ≤ c.part * min r' c.cents := Int.mul_le_mul_of_nonneg_left (by omega) hc.part.1
  have h2 : c.more * (r - min r c.cents) ≤ c.more * (r' - min r' c.cents) := Int.mul_le_mul_of_nonneg_left (by omega) hc.more.1
  omega
theorem give_bd {c : Cl} (hc : ClOK c) {t : Int} {x : Wk} (h : WkOK t x) : 0 ≤ giveN c x ∧ giveN c x ≤ x.rest ∧ (c.k = 2 → giveN c x ≤ x.owed) := by
  have h1 := h.rest
  have h2 := h.owed
  have h3 := hc.cents
  unfold giveN
  split
  · refine ⟨by omega, by omega, fun h => by omega⟩
  · split
    · refine ⟨by omega, by omega, fun h => by omega⟩
    · split
      · have := part_bd hc.part h1
        have := five_bd this.1 this.2
        refine ⟨by omega, by omega, fun h => by omega⟩
      · split
        · have := steps_bd hc h1
          have := five_bd this.1 this.2
          refine ⟨by omega, by omega, fun h => by omega⟩
        · refine ⟨by omega, by omega, fun h => by omega⟩
theorem clW_ok {c : Cl} (hc : ClOK c) {t : Int} {x : Wk} (h : WkOK t x) : WkOK t (clW x c) := by
  obtain ⟨g1, g2, g3⟩ := give_bd hc h
  obtain ⟨h1, h2, h3, h4, h5, h6, h7⟩ := h
  unfold clW
  split
  · exact ⟨by show 0 ≤ x.op + _; omega, h2, by show 0 ≤ x.rest - _; omega, h4, ⟨h5.1, by show x.rp ≤ x.op + _; omega⟩, by show x.op + _ + x.ow + (x.rest - _) = t; omega, h7⟩
  · split
    · rename_i hk
      have := g3 hk
      exact ⟨by show 0 ≤ x.op + _; omega, h2, by show 0 ≤ x.rest - _; omega, ⟨by show 0 ≤ x.owed - _; omega, by show x.owed - _ ≤ 9999; omega⟩, ⟨by show 0 ≤ x.rp + _; omega, by show x.rp + _ ≤ x.op + _; omega⟩, by show x.op + _ + x.ow + (x.rest - _) = t; omega, h7⟩
    · exact ⟨h1, by show 0 ≤ x.ow + _; omega, by show 0 ≤ x.rest - _; omega, h4, h5, by show x.op + (x.ow + _) + (x.rest - _) = t; omega, h7⟩
theorem runW_ok (cs : List Cl) : (∀ c ∈ cs, ClOK c) → ∀ {t : Int} {x : Wk}, WkOK t x → WkOK t (runW cs x) := by
  induction cs with
  | nil => intro _ t x h; exact h
  | cons c r ih => intro hc t x h; exact ih (fun c hm => hc c (by simp [hm])) (clW_ok (hc c (by simp)) h)
theorem startW_ok {t loan : Int} (ht : 0 ≤ t ∧ t ≤ 9999) (hl : 0 ≤ loan ∧ loan ≤ 9999) : WkOK t (startW t loan) :=
  ⟨Int.le_refl _, Int.le_refl _, ht.1, hl, ⟨Int.le_refl _, Int.le_refl _⟩, by show 0 + 0 + t = t; omega, ht.2⟩

/-- two weeks beside each other, before a clause rounds -/
def RelA (x y : Wk) : Prop := x.rest ≤ y.rest ∧ x.ow ≤ y.ow ∧ y.owed ≤ x.owed
/-- and after it -/
def RelB (x y : Wk) : Prop := x.ow ≤ y.ow ∧ (x.rest = 0 ∨ (x.ow + x.rest ≤ y.ow + y.rest ∧ (y.rest = 0 ∨ y.owed ≤ x.owed)))
theorem RelA.b {x y : Wk} (h : RelA x y) : RelB x y := ⟨h.2.1, Or.inr ⟨by have := h.1; have := h.2.1; omega, Or.inr h.2.2⟩⟩
theorem relA_cl {c : Cl} (hc : ClOK c) {t t' : Int} {x y : Wk} (hx : WkOK t x) (hy : WkOK t' y) (h : RelA x y) (hr : rnd c = false) : RelA (clW x c) (clW y c) := by
  obtain ⟨h1, h2, h3⟩ := h
  have a1 := hx.rest
  have a2 := hy.rest
  have a3 := hc.cents
  have a4 := hx.owed
  have a5 := hy.owed
  simp only [rnd, Bool.or_eq_false_iff, beq_eq_false_iff_ne] at hr
  unfold clW giveN RelA
  by_cases k1 : c.k = 1
  · simp only [k1, if_true, opeW]
    refine ⟨by omega, by omega, by omega⟩
  · by_cases k2 : c.k = 2
    · simp only [k2, if_true, if_neg (by omega : ¬(2 : Int) = 1), repW]
      refine ⟨by omega, by omega, by omega⟩
    · simp only [if_neg k1, if_neg k2, if_neg hr.1, if_neg hr.2, ownW]
      refine ⟨by omega, by omega, by omega⟩
theorem relB_cl {c : Cl} (hc : ClOK c) {t t' : Int} {x y : Wk} (hx : WkOK t x) (hy : WkOK t' y) (h : RelB x y) (hr : rnd c = false) : RelB (clW x c) (clW y c) := by
  obtain ⟨h1, h2⟩ := h
  have a1 := hx.rest
  have a2 := hy.rest
  have a3 := hc.cents
  have a4 := hx.owed
  have a5 := hy.owed
  simp only [rnd, Bool.or_eq_false_iff, beq_eq_false_iff_ne] at hr
  unfold clW giveN RelB
  by_cases k1 : c.k = 1
  · simp only [k1, if_true, opeW]
    refine ⟨by omega, by omega⟩
  · by_cases k2 : c.k = 2
    · simp only [k2, if_true, if_neg (by omega : ¬(2 : Int) = 1), repW]
      refine ⟨by omega, by omega⟩
    · simp only [if_neg k1, if_neg k2, if_neg hr.1, if_neg hr.2, ownW]
      refine ⟨by omega, by omega⟩
theorem rel_rnd {c : Cl} (hc : ClOK c) {x y : Wk} (h : RelA x y) (hr : rnd c = true) : RelB (clW x c) (clW y c) := by
  obtain ⟨h1, h2, h3⟩ := h
  simp only [rnd, Bool.or_eq_true, beq_iff_eq] at hr
  have k1 : ¬c.k = 1 := by omega
  have k2 : ¬c.k = 2 := by omega
  unfold clW giveN RelB
  by_cases k3 : c.k = 3
  · have := five_mono (Int.mul_le_mul_of_nonneg_left h1 hc.part.1)
    simp only [k3, if_true, ownW]
    simp only [show ¬(3 : Int) = 1 from by omega, show ¬(3 : Int) = 2 from by omega, if_false]
    refine ⟨by omega, by omega⟩
  · have k4 : c.k = 4 := by omega
    have := five_mono (steps_mono hc h1)
    simp only [k4, if_true, ownW]
    simp only [show ¬(4 : Int) = 1 from by omega, show ¬(4 : Int) = 2 from by omega, show ¬(4 : Int) = 3 from by omega, if_false]
    refine ⟨by omega, by omega⟩
theorem rel_run (cs : List Cl) : (∀ c ∈ cs, ClOK c) → ∀ {t t' : Int} {x y : Wk}, WkOK t x → WkOK t' y → ((RelA x y → cs.countP rnd ≤ 1 → RelB (runW cs x) (runW cs y)) ∧ (RelB x y → cs.countP rnd = 0 → RelB (runW cs x) (runW cs y))) := by
  induction cs with
  | nil => intro _ t t' x y _ _; exact ⟨fun h _ => h.b, fun h _ => h⟩
  | cons c r ih =>
    intro hcs t t' x y hx hy
    have hc := hcs c (by simp)
    have hi := ih (fun c hm => hcs c (by simp [hm])) (clW_ok hc hx) (clW_ok hc hy)
    constructor
    · intro h hn
      by_cases hr : rnd c = true
      · rw [List.countP_cons_of_pos hr] at hn
        exact hi.2 (rel_rnd hc h hr) (by omega)
      · rw [List.countP_cons_of_neg hr] at hn
        exact hi.1 (relA_cl hc hx hy h (by simpa using hr)) hn
    · intro h hn
      by_cases hr : rnd c = true
      · rw [List.countP_cons_of_pos hr] at hn
        omega
      · rw [List.countP_cons_of_neg hr] at hn
        exact hi.2 (relB_cl hc hx hy h (by simpa using hr)) hn
/-- with more takings the owner gets no less -/
theorem owner_mono {cs : List Cl} (hcs : ∀ c ∈ cs, ClOK c) (h1 : cs.countP rnd ≤ 1) {loan t t' : Int} (hl : 0 ≤ loan ∧ loan ≤ 9999) (h0 : 0 ≤ t) (ht : t ≤ t') (ht' : t' ≤ 9999) :
    (runW cs (startW t loan)).ow ≤ (runW cs (startW t' loan)).ow :=
  ((rel_run cs hcs (startW_ok ⟨h0, by omega⟩ hl) (startW_ok ⟨by omega, ht'⟩ hl)).1 ⟨ht, Int.le_refl _, Int.le_refl _⟩ h1).1
end Go.Proofs.Ytpgjkmjejpfkmaa
namespace Go.Proofs.Ytpgjkmjejpfkmaa
open Go.RowKit

/-- a week in memory -/
def WkAt (w : World) (b : Nat) (x : Wk) : Prop := w.heap[b]? = some (.cells #[.int .i64 x.op, .int .i64 x.ow, .int .i64 x.rp, .int .i64 x.rest, .int .i64 x.owed] 125 (0, 0))
/-- only block b may have been written -/
def Kept (b : Nat) (w w' : World) : Prop := w.grownBy w' (some b)
def StpT (a b : World) : Prop := Ext a b
theorem StpT.out {a b : World} (h : StpT a b) : Ext a b := h
theorem StpT.mk {a b : World} (h : Ext a b) : StpT a b := h
theorem Kept.refl (b : Nat) (w : World) : Kept b w w := World.grownBy.refl _ _
theorem Kept.trans {b : Nat} {w w' w'' : World} (h : Kept b w w') (k : Kept b w' w'') : Kept b w w'' :=
  ⟨k.os.trans h.os, k.tape.trans h.tape, k.output.trans h.output, Nat.le_trans h.size k.size, fun i hi hn => (k.block i (Nat.lt_of_lt_of_le hi h.size) hn).trans (h.block i hi hn)⟩
theorem Kept.ext {b : Nat} {w w' : World} (h : Ext w w') : Kept b w w' := ⟨h.os, h.tape, h.output, h.size, fun i hi _ => Below.block h i hi⟩
theorem Kept.drew {b : Nat} {w w' : World} (h : Kept b w w') : Kept b w w'.drew := h.trans (Kept.ext (Ext.refl _).drew)
theorem Kept.set {b : Nat} {w w' : World} (h : Kept b w w') (i : Nat) (u : Value) : Kept b w (w'.setCell ⟨b, i, none⟩ u) :=
  h.trans ⟨rfl, rfl, rfl, by simp, fun k _ hk => Below.heap_setCell w' ⟨b, i, none⟩ u k (fun e => hk (by rw [e]))⟩
theorem Kept.below {b : Nat} {w w' a : World} (h : Kept b w w') (ha : Ext a w) (hb : a.heap.size ≤ b) : Ext a w' := Below.grown ha h ha.size (fun k hk => by cases hk; exact hb)

set_option maxHeartbeats 800000 in
theorem owner09 (b : Nat) (x : Wk) (n : Int) (w : World) (h : WkAt w b x) (h1 : -9000000 ≤ x.ow + n ∧ x.ow + n ≤ 9000000) (h2 : -9000000 ≤ x.rest - n ∧ x.rest - n ≤ 9000000) :
    Calls Try.prog 104 #[.pointer (some ⟨b, 0, none⟩), .int .i64 n] w (fun e w' => e = .returned (.int .i64 n) ∧ WkAt w' b (ownW n x) ∧ Kept b w w') := by
  have hw1 : IntKind.i64.wrap (x.ow + n) = x.ow + n := IntWalk.i64_in _ (by omega)
  have hw2 : IntKind.i64.wrap (x.rest - n) = x.rest - n := IntWalk.i64_in _ (by omega)
  have c1 := cell_of_heap h 1
  have c3 := cell_of_heap h 3
  have f1 := cell_frozen h 1
  have f3 := cell_frozen h 3
  simp at c1 c3
  have HH := Lib.hid h
  clear h
  go_enter Try.func104, Try.ntmps104
  go_upto_region 1 with (fail)
  go_region
  all_goals
    go_wp2
    go_ret
    refine ⟨rfl, ?_, ?_⟩
    · exact heap_set (heap_set HH.out rfl) rfl
    · repeat (first | with_reducible exact Kept.refl _ _ | with_reducible refine Kept.drew ?_ | with_reducible refine Kept.set ?_ _ _)
set_option maxHeartbeats 800000 in
theorem oper09 (b : Nat) (x : Wk) (n : Int) (w : World) (h : WkAt w b x) (h1 : -9000000 ≤ x.op + n ∧ x.op + n ≤ 9000000) (h2 : -9000000 ≤ x.rest - n ∧ x.rest - n ≤ 9000000) :
    Calls Try.prog 106 #[.pointer (some ⟨b, 0, none⟩), .int .i64 n] w (fun e w' => e = .returned (.int .i64 n) ∧ WkAt w' b (opeW n x) ∧ Kept b w w') := by
  have hw1 : IntKind.i64.wrap (x.op + n) = x.op + n := IntWalk.i64_in _ (by omega)
  have hw2 : IntKind.i64.wrap (x.rest - n) = x.rest - n := IntWalk.i64_in _ (by omega)
  have c1 := cell_of_heap h 0
  have c3 := cell_of_heap h 3
  have f1 := cell_frozen h 0
  have f3 := cell_frozen h 3
  simp at c1 c3
  have HH := Lib.hid h
  clear h
  go_enter Try.func106, Try.ntmps106
  go_upto_region 1 with (fail)
  go_region
  all_goals
    go_wp2
    go_ret
    refine ⟨rfl, ?_, ?_⟩
    · exact heap_set (heap_set HH.out rfl) rfl
    · repeat (first | with_reducible exact Kept.refl _ _ | with_reducible refine Kept.drew ?_ | with_reducible refine Kept.set ?_ _ _)

/-- a clause as a value -/
def clV (c : Cl) : Value := .agg #[.int .i64 c.k, .int .i64 c.cents, .int .i64 c.part, .int .i64 c.more]
/-- what the function of a clause does -/
def ClPost (b : Nat) (x : Wk) (c : Cl) (w : World) (e : Ending) (w' : World) : Prop := e = .returned (.int .i64 (giveN c x)) ∧ WkAt w' b (clW x c) ∧ Kept b w w'
theorem wk_alloc {w : World} {b : Nat} {x : Wk} (h : WkAt w b x) (o : Obj) : WkAt (w.alloc o) b x := (Below.block (Ext.alloc (Ext.refl w) o) b (Array.getElem?_eq_some_iff.1 h).1).trans h
theorem wk_ext {w w' : World} {b : Nat} {x : Wk} (h : WkAt w b x) (hE : Ext w w') : WkAt w' b x := (Below.block hE b (Array.getElem?_eq_some_iff.1 h).1).trans h
theorem wk_lt {w : World} {b : Nat} {x : Wk} (h : WkAt w b x) : b < w.heap.size := (Array.getElem?_eq_some_iff.1 h).1

theorem five09 (h : Int) (w : World) (h0 : 0 ≤ h) (h1 : h ≤ 1000000) : Calls Try.prog 113 #[.int .i64 h] w (RetQ (.int .i64 (fiveN h)) w) := by
  have hq : h.tdiv 500 = h / 500 := Int.tdiv_eq_ediv_of_nonneg h0
  have hw1 : IntKind.i64.wrap (h / 500) = h / 500 := IntWalk.i64_in _ (by omega)
  have hw2 : IntKind.i64.wrap (h / 500 * 5) = h / 500 * 5 := IntWalk.i64_in _ (by omega)
  go_enter Try.func113, Try.ntmps113
  go_wp2
  go_ret
  exact RetQ.mk0

set_option maxRecDepth 20000 in
set_option maxHeartbeats 1600000 in
theorem rule1 (b : Nat) (x : Wk) (c : Cl) (t : Int) (w : World) (h : WkAt w b x) (hx : WkOK t x) (hc : ClOK c) (hk : c.k = 1) :
    Calls Try.prog 110 #[.pointer (some ⟨b, 0, none⟩), clV c] w (ClPost b x c w) := by
  unfold clV
  have hlt := wk_lt h
  have HX := Lib.hid hx
  have HC := Lib.hid hc
  have HK := Lib.hid hk
  clear hx hc hk
  go_enter Try.func110, Try.ntmps110
  go_upto_region 1 with (fail)
  have hn := heap_new w (.cells #[.int .i64 c.k, .int .i64 c.cents, .int .i64 c.part, .int .i64 c.more] 110)
  obtain ⟨W, hW⟩ : ∃ W, W = w.alloc (.cells #[.int .i64 c.k, .int .i64 c.cents, .int .i64 c.part, .int .i64 c.more] 110) := ⟨_, rfl⟩
  have hE : Ext w W := by rw [hW]; exact Ext.alloc (Ext.refl w) _
  have hwk := wk_ext h hE
  rw [← hW] at hn ⊢
  have q1 := cell_of_heap hn 1
  have q2 := cell_of_heap hn 2
  have q3 := cell_of_heap hn 3
  have c1 := cell_of_heap hwk 1
  have c3 := cell_of_heap hwk 3
  have c4 := cell_of_heap hwk 4
  simp at q1 q2 q3 c1 c3 c4
  have HE := Lib.hid hE
  have HWK := Lib.hid hwk
  clear hW hn hE hwk h
  go_still_tail 8, (by kernel_rfl)
  change wpList _ _ _ _ _ W.drew
  obtain ⟨w2, hw2⟩ : ∃ w2, w2 = W.drew := ⟨_, rfl⟩
  rw [← hw2]
  have HD := Lib.hid (by rw [hw2]; exact (Ext.refl W).drew : Ext W w2)
  clear hw2 c1 c3 c4 q1 q2 q3
  have hg := give_bd HC.out HX.out
  have hgn : giveN c x = (if c.cents < x.rest then c.cents else x.rest) := by unfold giveN; rw [if_pos HK.out, Int.min_def]; split <;> split <;> omega
  obtain ⟨n, hnn⟩ : ∃ n, n = (if c.cents < x.rest then c.cents else x.rest) := ⟨_, rfl⟩
  rw [← hnn] at hgn ⊢
  have hx1 := HX.out.op
  have hx2 := HX.out.sum
  have hx3 := HX.out.top
  have hx4 := HX.out.ow
  have hx5 := HX.out.rest
  have HOP := Lib.hid (oper09 b x n w2 (wk_ext HWK.out HD.out) (by omega) (by omega))
  have HG := Lib.hid hgn
  clear hg hgn hnn hx1 hx2 hx3 hx4 hx5
  go_wp2_with fail
  refine HOP.out.mono ?_
  rintro e w3 ⟨rfl, hw3, hk3⟩
  go_wp2
  go_ret
  refine ⟨by rw [HG.out]; rfl, ?_, (Kept.ext (HE.out.trans HD.out)).trans hk3⟩
  unfold clW
  rw [if_pos HK.out, HG.out]
  exact hw3

set_option maxRecDepth 20000 in
set_option maxHeartbeats 1600000 in
theorem rule2 (b : Nat) (x : Wk) (c : Cl) (t : Int) (w : World) (h : WkAt w b x) (hx : WkOK t x) (hc : ClOK c) (hk : c.k = 2) :
    Calls Try.prog 111 #[.pointer (some ⟨b, 0, none⟩), clV c] w (ClPost b x c w) := by
  unfold clV
  have hlt := wk_lt h
  have HX := Lib.hid hx
  have HC := Lib.hid hc
  have HK := Lib.hid hk
  clear hx hc hk
  go_enter Try.func111, Try.ntmps111
  go_upto_region 1 with (fail)
  have hn := heap_new w (.cells #[.int .i64 c.k, .int .i64 c.cents, .int .i64 c.part, .int .i64 c.more] 110)
  obtain ⟨W, hW⟩ : ∃ W, W = w.alloc (.cells #[.int .i64 c.k, .int .i64 c.cents, .int .i64 c.part, .int .i64 c.more] 110) := ⟨_, rfl⟩
  have hE : Ext w W := by rw [hW]; exact Ext.alloc (Ext.refl w) _
  have hwk := wk_ext h hE
  rw [← hW] at hn ⊢
  have q1 := cell_of_heap hn 1
  have q2 := cell_of_heap hn 2
  have q3 := cell_of_heap hn 3
  have c1 := cell_of_heap hwk 1
  have c3 := cell_of_heap hwk 3
  have c4 := cell_of_heap hwk 4
  simp at q1 q2 q3 c1 c3 c4
  have HE := Lib.hid hE
  have HWK := Lib.hid hwk
  clear hW hn hE hwk h
  go_still_tail 12, (by kernel_rfl)
  change wpList _ _ _ _ _ W.drew
  obtain ⟨w2, hw2⟩ : ∃ w2, w2 = W.drew := ⟨_, rfl⟩
  rw [← hw2]
  have HD := Lib.hid (by rw [hw2]; exact (Ext.refl W).drew : Ext W w2)
  clear hw2 c1 c3 c4 q1 q2 q3
  have hgb := give_bd HC.out HX.out
  obtain ⟨n, hnn⟩ : ∃ n, n = (if x.owed < (if c.cents < x.rest then c.cents else x.rest) then x.owed else (if c.cents < x.rest then c.cents else x.rest)) := ⟨_, rfl⟩
  have hgn : giveN c x = n := by unfold giveN; rw [if_neg (by have := HK.out; omega), if_pos HK.out, hnn, Int.min_def, Int.min_def]; repeat (first | omega | split)
  rw [← hnn]
  have hx1 := HX.out.op
  have hx2 := HX.out.sum
  have hx3 := HX.out.top
  have hx4 := HX.out.ow
  have hx5 := HX.out.rest
  have hx6 := HX.out.rp
  have hx7 := HX.out.owed
  have hgo := hgb.2.2 HK.out
  rw [hgn] at hgb hgo
  have HOP := Lib.hid (oper09 b x n w2 (wk_ext HWK.out HD.out) (by omega) (by omega))
  have HG := Lib.hid hgn
  have hw1 : IntKind.i64.wrap (x.rp + n) = x.rp + n := IntWalk.i64_in _ (by omega)
  have hw2 : IntKind.i64.wrap (x.owed - n) = x.owed - n := IntWalk.i64_in _ (by omega)
  have HW1 := Lib.hid hw1
  have HW2 := Lib.hid hw2
  clear hgb hgo hgn hnn hx1 hx2 hx3 hx4 hx5 hx6 hx7 hw1 hw2
  go_wp2_with fail
  refine HOP.out.mono ?_
  rintro e w3 ⟨rfl, hw3, hk3⟩
  have hw1 := HW1.out
  have hw2 := HW2.out
  have c2 := cell_of_heap hw3 2
  have c4 := cell_of_heap hw3 4
  have f2 := cell_frozen hw3 2
  have f4 := cell_frozen hw3 4
  simp [opeW] at c2 c4
  have HW3 := Lib.hid hw3
  have HK3 := Lib.hid hk3
  clear hw3 hk3
  go_upto_region 2 with (fail)
  go_region
  all_goals
    go_wp2
    go_ret
    refine ⟨by rw [HG.out]; rfl, ?_, ((Kept.ext (HE.out.trans HD.out)).trans HK3.out).trans ?_⟩
    · unfold clW
      rw [if_neg (by have := HK.out; omega), if_pos HK.out, HG.out]
      exact heap_set (heap_set HW3.out rfl) rfl
    · repeat (first | with_reducible exact Kept.refl _ _ | with_reducible refine Kept.drew ?_ | with_reducible refine Kept.set ?_ _ _)
set_option maxRecDepth 20000 in
set_option maxHeartbeats 1600000 in
theorem rule3 (b : Nat) (x : Wk) (c : Cl) (t : Int) (w : World) (h : WkAt w b x) (hx : WkOK t x) (hc : ClOK c) (hk : c.k = 3) :
    Calls Try.prog 112 #[.pointer (some ⟨b, 0, none⟩), clV c] w (ClPost b x c w) := by
  unfold clV
  have hlt := wk_lt h
  have HX := Lib.hid hx
  have HC := Lib.hid hc
  have HK := Lib.hid hk
  clear hx hc hk
  go_enter Try.func112, Try.ntmps112
  go_upto_region 1 with (fail)
  have hn := heap_new w (.cells #[.int .i64 c.k, .int .i64 c.cents, .int .i64 c.part, .int .i64 c.more] 110)
  obtain ⟨W, hW⟩ : ∃ W, W = w.alloc (.cells #[.int .i64 c.k, .int .i64 c.cents, .int .i64 c.part, .int .i64 c.more] 110) := ⟨_, rfl⟩
  have hE : Ext w W := by rw [hW]; exact Ext.alloc (Ext.refl w) _
  have hwk := wk_ext h hE
  rw [← hW] at hn ⊢
  have q1 := cell_of_heap hn 1
  have q2 := cell_of_heap hn 2
  have q3 := cell_of_heap hn 3
  have c1 := cell_of_heap hwk 1
  have c3 := cell_of_heap hwk 3
  have c4 := cell_of_heap hwk 4
  simp at q1 q2 q3 c1 c3 c4
  have HE := Lib.hid hE
  have HWK := Lib.hid hwk
  clear hW hn hE hwk h
  have hpb := part_bd HC.out.part HX.out.rest
  have hrt : x.rest ≤ 9999 := by have := HX.out.op; have := HX.out.sum; have := HX.out.top; have := HX.out.ow; omega
  have hwp : IntKind.i64.wrap (c.part * x.rest) = c.part * x.rest := IntWalk.i64_in _ (by omega)
  have HF5 := Lib.hid (fun w' => five09 (c.part * x.rest) w' hpb.1 (by omega))
  clear hpb hrt
  obtain ⟨n, hnn⟩ : ∃ n, n = fiveN (c.part * x.rest) := ⟨_, rfl⟩
  have hgn : giveN c x = n := by unfold giveN; rw [if_neg (by have := HK.out; omega), if_neg (by have := HK.out; omega), if_pos HK.out, hnn]
  rw [← hnn] at HF5
  have hgb := give_bd HC.out HX.out
  rw [hgn] at hgb
  have hx1 := HX.out.op
  have hx2 := HX.out.sum
  have hx3 := HX.out.top
  have hx4 := HX.out.ow
  have hx5 := HX.out.rest
  have HOP := Lib.hid (fun (w5 : World) (hE5 : Ext W w5) => owner09 b x n w5 (wk_ext HWK.out hE5) (by omega) (by omega))
  have HG := Lib.hid hgn
  clear hgb hgn hnn hx1 hx2 hx3 hx4 hx5
  go_region_with (first
    | (go_at_call 113; refine (HF5.out _).mono ?_; rintro e w5 ⟨rfl, hQ5⟩; have hS5 := StpT.mk (Qt.ext hQ5); clear hQ5)
    | (go_at_call 104; refine (HOP.out _ (by repeat (first | with_reducible exact Ext.refl _ | with_reducible refine Ext.drew ?_ | with_reducible refine Ext.trans ?_ (StpT.out (by assumption))))).mono ?_; rintro e w3 ⟨rfl, hw3, hk3⟩; have HW3 := Lib.hid hw3; have hK : Kept b W w3 := Kept.trans (Kept.ext (by repeat (first | with_reducible exact Ext.refl _ | with_reducible refine Ext.drew ?_ | with_reducible refine Ext.trans ?_ (StpT.out (by assumption))))) hk3; have HK3 := Lib.hid hK; clear hK; clear hw3 hk3))
  all_goals
    go_wp2
    go_ret
    refine ⟨by rw [HG.out]; rfl, ?_, (Kept.ext HE.out).trans HK3.out⟩
    unfold clW
    rw [if_neg (by have := HK.out; omega), if_neg (by have := HK.out; omega), HG.out]
    exact HW3.out
set_option maxRecDepth 20000 in
set_option maxHeartbeats 1600000 in
theorem rule5 (b : Nat) (x : Wk) (c : Cl) (t : Int) (w : World) (h : WkAt w b x) (hx : WkOK t x) (hc : ClOK c) (hk : c.k = 5) :
    Calls Try.prog 115 #[.pointer (some ⟨b, 0, none⟩), clV c] w (ClPost b x c w) := by
  unfold clV
  have hlt := wk_lt h
  have HX := Lib.hid hx
  have HC := Lib.hid hc
  have HK := Lib.hid hk
  clear hx hc hk
  go_enter Try.func115, Try.ntmps115
  go_upto_region 1 with (fail)
  have hn := heap_new w (.cells #[.int .i64 c.k, .int .i64 c.cents, .int .i64 c.part, .int .i64 c.more] 110)
  obtain ⟨W, hW⟩ : ∃ W, W = w.alloc (.cells #[.int .i64 c.k, .int .i64 c.cents, .int .i64 c.part, .int .i64 c.more] 110) := ⟨_, rfl⟩
  have hE : Ext w W := by rw [hW]; exact Ext.alloc (Ext.refl w) _
  have hwk := wk_ext h hE
  rw [← hW] at hn ⊢
  have q1 := cell_of_heap hn 1
  have q2 := cell_of_heap hn 2
  have q3 := cell_of_heap hn 3
  have c1 := cell_of_heap hwk 1
  have c3 := cell_of_heap hwk 3
  have c4 := cell_of_heap hwk 4
  simp at q1 q2 q3 c1 c3 c4
  have HE := Lib.hid hE
  have HWK := Lib.hid hwk
  clear hW hn hE hwk h
  have hwc : IntKind.i64.wrap (c.cents - x.ow) = c.cents - x.ow := IntWalk.i64_in _ (by have := HC.out.cents; have := HX.out.op; have := HX.out.sum; have := HX.out.top; have := HX.out.ow; have := HX.out.rest; omega)
  go_still_tail 15, (by kernel_rfl)
  change wpList _ _ _ _ _ W.drew
  obtain ⟨w2, hw2⟩ : ∃ w2, w2 = W.drew := ⟨_, rfl⟩
  rw [← hw2]
  have HD := Lib.hid (by rw [hw2]; exact (Ext.refl W).drew : Ext W w2)
  clear hwc hw2 c1 c3 c4 q1 q2 q3
  have hgb := give_bd HC.out HX.out
  obtain ⟨n, hnn⟩ : ∃ n, n = (if (if x.ow < c.cents then c.cents - x.ow else 0) < x.rest then (if x.ow < c.cents then c.cents - x.ow else 0) else x.rest) := ⟨_, rfl⟩
  have hgn : giveN c x = n := by unfold giveN; rw [if_neg (by have := HK.out; omega), if_neg (by have := HK.out; omega), if_neg (by have := HK.out; omega), if_neg (by have := HK.out; omega), hnn, Int.min_def, Int.max_def]; repeat (first | omega | split)
  rw [← hnn]
  obtain ⟨mx, hmx⟩ : ∃ mx, mx = (if x.ow < c.cents then c.cents - x.ow else 0) := ⟨_, rfl⟩
  rw [← hmx]
  clear hmx
  have hx1 := HX.out.op
  have hx2 := HX.out.sum
  have hx3 := HX.out.top
  have hx4 := HX.out.ow
  have hx5 := HX.out.rest
  have hx6 := HX.out.rp
  have hx7 := HX.out.owed
  rw [hgn] at hgb
  have HOP := Lib.hid (owner09 b x n w2 (wk_ext HWK.out HD.out) (by omega) (by omega))
  have HG := Lib.hid hgn
  clear hgb hgn hnn hx1 hx2 hx3 hx4 hx5 hx6 hx7
  go_wp2_with fail
  refine HOP.out.mono ?_
  rintro e w3 ⟨rfl, hw3, hk3⟩
  go_wp2
  go_ret
  refine ⟨by rw [HG.out]; rfl, ?_, (Kept.ext (HE.out.trans HD.out)).trans hk3⟩
  unfold clW
  rw [if_neg (by have := HK.out; omega), if_neg (by have := HK.out; omega), HG.out]
  exact hw3
set_option maxRecDepth 20000 in
set_option maxHeartbeats 1600000 in
theorem rule4 (b : Nat) (x : Wk) (c : Cl) (t : Int) (w : World) (h : WkAt w b x) (hx : WkOK t x) (hc : ClOK c) (hk : c.k = 4) :
    Calls Try.prog 114 #[.pointer (some ⟨b, 0, none⟩), clV c] w (ClPost b x c w) := by
  unfold clV
  have hlt := wk_lt h
  have HX := Lib.hid hx
  have HC := Lib.hid hc
  have HK := Lib.hid hk
  clear hx hc hk
  go_enter Try.func114, Try.ntmps114
  go_upto_region 1 with (fail)
  have hn := heap_new w (.cells #[.int .i64 c.k, .int .i64 c.cents, .int .i64 c.part, .int .i64 c.more] 110)
  obtain ⟨W, hW⟩ : ∃ W, W = w.alloc (.cells #[.int .i64 c.k, .int .i64 c.cents, .int .i64 c.part, .int .i64 c.more] 110) := ⟨_, rfl⟩
  have hE : Ext w W := by rw [hW]; exact Ext.alloc (Ext.refl w) _
  have hwk := wk_ext h hE
  rw [← hW] at hn ⊢
  have q1 := cell_of_heap hn 1
  have q2 := cell_of_heap hn 2
  have q3 := cell_of_heap hn 3
  have c1 := cell_of_heap hwk 1
  have c3 := cell_of_heap hwk 3
  have c4 := cell_of_heap hwk 4
  simp at q1 q2 q3 c1 c3 c4
  have HE := Lib.hid hE
  have HWK := Lib.hid hwk
  clear hW hn hE hwk h
  have hrt : x.rest ≤ 9999 := by have := HX.out.op; have := HX.out.sum; have := HX.out.top; have := HX.out.ow; omega
  have hr0 := HX.out.rest
  have hcc := HC.out.cents
  have hpb := steps_bd HC.out hr0
  have hmn : (if c.cents < x.rest then c.cents else x.rest) = min x.rest c.cents := by rw [Int.min_def]; split <;> split <;> omega
  obtain ⟨lo, hlo⟩ : ∃ lo, lo = min x.rest c.cents := ⟨_, rfl⟩
  have hl0 : 0 ≤ lo ∧ lo ≤ x.rest := by rw [hlo]; omega
  have h1 := part_bd HC.out.part hl0.1
  have h2 := part_bd HC.out.more (r := x.rest - lo) (by omega)
  have hst : stepsN c x.rest = c.part * lo + c.more * (x.rest - lo) := by rw [hlo]; rfl
  rw [← hlo] at hmn
  rw [hst] at hpb
  have hwa : IntKind.i64.wrap (c.part * lo) = c.part * lo := IntWalk.i64_in _ (by omega)
  have hwb : IntKind.i64.wrap (x.rest - lo) = x.rest - lo := IntWalk.i64_in _ (by omega)
  have hwc : IntKind.i64.wrap (c.more * (x.rest - lo)) = c.more * (x.rest - lo) := IntWalk.i64_in _ (by omega)
  have hwd : IntKind.i64.wrap (c.part * lo + c.more * (x.rest - lo)) = c.part * lo + c.more * (x.rest - lo) := IntWalk.i64_in _ (by omega)
  have HF5 := Lib.hid (fun w' => five09 (c.part * lo + c.more * (x.rest - lo)) w' hpb.1 (by omega))
  obtain ⟨n, hnn⟩ : ∃ n, n = fiveN (c.part * lo + c.more * (x.rest - lo)) := ⟨_, rfl⟩
  have hgn : giveN c x = n := by unfold giveN; rw [if_neg (by have := HK.out; omega), if_neg (by have := HK.out; omega), if_neg (by have := HK.out; omega), if_pos HK.out, hnn, hst]
  rw [← hnn] at HF5
  have hgb := give_bd HC.out HX.out
  rw [hgn] at hgb
  have hx1 := HX.out.op
  have hx2 := HX.out.sum
  have hx3 := HX.out.top
  have hx4 := HX.out.ow
  have HOP := Lib.hid (fun (w5 : World) (hE5 : Ext W w5) => owner09 b x n w5 (wk_ext HWK.out hE5) (by omega) (by omega))
  have HG := Lib.hid hgn
  have HMN := Lib.hid hmn
  have HWA := Lib.hid hwa
  have HWB := Lib.hid hwb
  have HWC := Lib.hid hwc
  have HWD := Lib.hid hwd
  have HC3 := Lib.hid c3
  have HQ1 := Lib.hid q2
  have HQ2 := Lib.hid q3
  clear hgb hgn hnn hx1 hx2 hx3 hx4 hrt hr0 hcc hpb hlo hl0 h1 h2 hst hwa hwb hwc hwd hmn c1 c4
  go_region
  all_goals
    go_upto_region 2 with (fail)
    rw [HMN.out]
    have hwa := HWA.out
    have hwb := HWB.out
    have hwc := HWC.out
    have hwd := HWD.out
    go_region_with (first
      | (go_at_call 113; refine (HF5.out _).mono ?_; rintro e w5 ⟨rfl, hQ5⟩; have hS5 := StpT.mk (Qt.ext hQ5); clear hQ5)
      | (go_at_call 104; refine (HOP.out _ (by repeat (first | with_reducible exact Ext.refl _ | with_reducible refine Ext.drew ?_ | with_reducible refine Ext.trans ?_ (StpT.out (by assumption))))).mono ?_; rintro e w3 ⟨rfl, hw3, hk3⟩; have HW3 := Lib.hid hw3; have hK : Kept b W w3 := Kept.trans (Kept.ext (by repeat (first | with_reducible exact Ext.refl _ | with_reducible refine Ext.drew ?_ | with_reducible refine Ext.trans ?_ (StpT.out (by assumption))))) hk3; have HK3 := Lib.hid hK; clear hK; clear hw3 hk3))
    all_goals
      go_wp2
      go_ret
      refine ⟨by rw [HG.out]; rfl, ?_, (Kept.ext HE.out).trans HK3.out⟩
      unfold clW
      rw [if_neg (by have := HK.out; omega), if_neg (by have := HK.out; omega), HG.out]
      exact HW3.out
end Go.Proofs.Ytpgjkmjejpfkmaa
