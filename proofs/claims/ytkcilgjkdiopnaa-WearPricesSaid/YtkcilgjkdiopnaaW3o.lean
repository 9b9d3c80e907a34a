/- The walk of seek, and of Cheapest. -/
import Derived.Test.YtkcilgjkdiopnaaW3n
namespace Go.Proofs.Ytkcilgjkdiopnaa
open Go.RowKit

/-- a function of a box and a choice that says a number of the choice -/
def Says2 (h : Nat) (X : Wr) (f : Ch → Int) : Prop :=
  (∀ args w, (callFunc h args).run Try.prog w = .ok (.enter h args) w) ∧ ∀ w v u c, WrV w v X → ChV w u c → ChOK X c → Calls Try.prog h #[v, u] w (RetE (.int .i64 (f c)) w)

set_option maxHeartbeats 1600000 in
theorem seekFn03 (X : Wr) (p q : Option Addr) (cp d h F B : Nat) (f : Ch → Int) (hs : Says2 h X f) (u : Value) (c : Ch) (w : World) (hu : ChV w u c) (hc : ChOK X c) (hR : RecsAt w q X.recs) (hG : IntsAt w p X.rough)
    (hF : w.heap[F]? = some (.cells #[.func (.func h) #[] #[]] 108)) (hB : w.heap[B]? = some (bxO X p cp q d)) :
    Calls Try.prog 91 #[u, .pointer (some ⟨F, 0, none⟩), .pointer (some ⟨B, 0, none⟩)] w (RetE (.int .i64 (f c)) w) := by
  obtain ⟨hcall, hs⟩ := hs
  obtain ⟨s, cs, rfl, hma⟩ := hu
  unfold bxO at hB
  go_enter Try.func91, Try.ntmps91
  go_upto_region 1 with (fail)
  have hn := heap_new w (.cells #[.int .u64 c.needles, .slice s c.records.length cs] 105)
  obtain ⟨W, hW⟩ : ∃ W, W = w.alloc (.cells #[.int .u64 c.needles, .slice s c.records.length cs] 105) := ⟨_, rfl⟩
  have hE : Ext w W := by rw [hW]; exact Ext.alloc (Ext.refl w) _
  rw [← hW] at hn ⊢
  have c0 : W.cell? ⟨w.heap.size, 0, none⟩ = some (.int .u64 c.needles) := (cell_of_heap hn 0).trans rfl
  have c1 : W.cell? ⟨w.heap.size, 1, none⟩ = some (.slice s c.records.length cs) := (cell_of_heap hn 1).trans rfl
  have hFw := (Below.block hE F (Array.getElem?_eq_some_iff.1 hF).1).trans hF
  have hBw := (Below.block hE B (Array.getElem?_eq_some_iff.1 hB).1).trans hB
  have f0 : W.cell? ⟨F, 0, none⟩ = some (.func (.func h) #[] #[]) := (cell_of_heap hFw 0).trans rfl
  have b0 : W.cell? ⟨B, 0, none⟩ = some (.int .i64 X.weeks) := (cell_of_heap hBw 0).trans rfl
  have b1 : W.cell? ⟨B, 1, none⟩ = some (.int .i64 X.price) := (cell_of_heap hBw 1).trans rfl
  have b2 : W.cell? ⟨B, 2, none⟩ = some (.int .i64 X.age) := (cell_of_heap hBw 2).trans rfl
  have b3 : W.cell? ⟨B, 3, none⟩ = some (.int .i64 X.step) := (cell_of_heap hBw 3).trans rfl
  have b4 : W.cell? ⟨B, 4, none⟩ = some (.slice p X.rough.length cp) := (cell_of_heap hBw 4).trans rfl
  have b5 : W.cell? ⟨B, 5, none⟩ = some (.slice q X.recs.length d) := (cell_of_heap hBw 5).trans rfl
  have HS := Lib.hid (hs W (.agg #[.int .i64 X.weeks, .int .i64 X.price, .int .i64 X.age, .int .i64 X.step, .slice p X.rough.length cp, .slice q X.recs.length d]) (.agg #[.int .u64 c.needles, .slice s c.records.length cs]) c ⟨_, _, _, _, rfl, hG.ext hE, hR.ext hE⟩ ⟨_, _, rfl, hma.ext hE⟩ hc)
  have HE := Lib.hid hE
  clear hW hn hE hFw hBw hs hF hB hma
  go_wp2_with fail
  refine HS.out.mono ?_
  rintro e W2 ⟨rfl, hE2⟩
  go_wp2
  go_ret
  exact RetE.fin (HE.out.trans hE2) rfl

/-- what seek returns of a valid box -/
def SeekPost (v : Value) (o : Option Ch) (w : World) (e : Ending) (w' : World) : Prop :=
  Ext w w' ∧ match o with
    | some c => ∃ u, e = .returned (.tuple #[v, u, .int .i64 0]) ∧ ChN w.heap.size w' u c
    | none => e = .returned (.tuple #[v, zeroCh, .int .i64 3])

theorem ChPost.mono {o : Option Ch} {w w0 : World} {e : Ending} {w' : World} (h : ChPost o w e w') (hE : Ext w0 w) : ChPost o w0 e w' := by
  refine ⟨hE.trans h.1, ?_⟩
  have h2 := h.2
  cases o with
  | none => exact h2
  | some c =>
    obtain ⟨v, hv, p, cap, h3, h4, h5⟩ := h2
    exact ⟨v, hv, p, cap, h3, h4, fun a ha => Nat.le_trans hE.size (h5 a ha)⟩

set_option maxRecDepth 20000 in
set_option maxHeartbeats 3200000 in
theorem seek03 (X : Wr) (hX : ValidW X) (p q : Option Addr) (cp d h : Nat) (f : Ch → Int) (hs : Says2 h X f) (w : World) (hM : ModestW X) (hR : RecsAt w q X.recs) (hG : IntsAt w p X.rough) :
    Calls Try.prog 61 #[.agg #[.int .i64 X.weeks, .int .i64 X.price, .int .i64 X.age, .int .i64 X.step, .slice p X.rough.length cp, .slice q X.recs.length d], .func (.func h) #[] #[]] w
      (SeekPost (.agg #[.int .i64 X.weeks, .int .i64 X.price, .int .i64 X.age, .int .i64 X.step, .slice p X.rough.length cp, .slice q X.recs.length d]) (leastL f (choicesW X X.weeks.toNat)) w) := by
  have hC := fun w' (h : Ext w w') => Check03 (.agg #[.int .i64 X.weeks, .int .i64 X.price, .int .i64 X.age, .int .i64 X.step, .slice p X.rough.length cp, .slice q X.recs.length d]) X w' ⟨_, _, _, _, rfl, hG.ext h, hR.ext h⟩ hM
  rw [chkW_t hX] at hC
  have HC := Lib.hid hC
  have HX := Lib.hid hX
  have HS := Lib.hid hs
  have HR := Lib.hid hR
  have HG := Lib.hid hG
  obtain ⟨long, hlo⟩ : ∃ long : Nat, X.weeks = long := ⟨X.weeks.toNat, by have := hX.weeks; omega⟩
  have HLO := Lib.hid hlo
  clear hC hX hs hR hG hM hlo
  go_enter Try.func61, Try.ntmps61
  go_upto_region 1 with (fail)
  obtain ⟨W, hW⟩ : ∃ W, W = (((w.alloc (.cells #[.int .i64 X.weeks, .int .i64 X.price, .int .i64 X.age, .int .i64 X.step, .slice p X.rough.length cp, .slice q X.recs.length d] 25)).alloc (.cells #[.func (.func h) #[] #[]] 108)).alloc (.cells #[.int .i64 0, .int .i64 0, .int .i64 0, .int .i64 0, .slice none 0 0, .slice none 0 0] 88)).alloc (.cells #[.int .u64 0, .slice none 0 0] 105) := ⟨_, rfl⟩
  have g0 : W.heap[w.heap.size]? = some (.cells #[.int .i64 X.weeks, .int .i64 X.price, .int .i64 X.age, .int .i64 X.step, .slice p X.rough.length cp, .slice q X.recs.length d] 25) := by rw [hW]; exact heap_old _ (heap3_0 _ _ _ _)
  have g1 : W.heap[w.heap.size + 1]? = some (.cells #[.func (.func h) #[] #[]] 108) := by rw [hW]; exact heap_old _ (heap3_1 _ _ _ _)
  have g2 : W.heap[w.heap.size + 2]? = some (.cells #[.int .i64 0, .int .i64 0, .int .i64 0, .int .i64 0, .slice none 0 0, .slice none 0 0] 88 (0, 0)) := by rw [hW]; exact heap_old _ (heap3_2 _ _ _ _)
  have g3 : W.heap[w.heap.size + 3]? = some (.cells #[.int .u64 0, .slice none 0 0] 105 (0, 0)) := by rw [hW]; exact heap4_3 _ _ _ _ _
  have hE : Ext w W := by rw [hW]; exact Ext.alloc (Ext.alloc (Ext.alloc (Ext.alloc (Ext.refl w) _) _) _) _
  have hsW : W.heap.size = w.heap.size + 4 := by rw [hW]; simp only [size_alloc]
  rw [← hW]
  have q0 := ExtW.cell (v := .int .i64 X.weeks) (cell_of_heap g0 0)
  have q1 := ExtW.cell (v := .int .i64 X.price) (cell_of_heap g0 1)
  have q2 := ExtW.cell (v := .int .i64 X.age) (cell_of_heap g0 2)
  have q3 := ExtW.cell (v := .int .i64 X.step) (cell_of_heap g0 3)
  have q4 := ExtW.cell (v := .slice p X.rough.length cp) (cell_of_heap g0 4)
  have q5 := ExtW.cell (v := .slice q X.recs.length d) (cell_of_heap g0 5)
  have HC2 := Lib.hid (fun x : ExtW W => ExtW.call (HC.out x.w (hE.trans x.h)))
  have HG1 := Lib.hid g1
  have HG2 := Lib.hid g2
  have HG3 := Lib.hid g3
  have HE := Lib.hid hE
  obtain ⟨x0, hx0⟩ := ExtW.of (Ext.refl W)
  clear hW g0 g1 g2 g3 hE HC
  conv => arg 5; rw [hx0]
  clear hx0
  obtain ⟨B, hB⟩ : ∃ B, B = w.heap.size + 2 := ⟨_, rfl⟩
  have hBW : B + 1 < W.heap.size := by omega
  have hwB : w.heap.size + 1 < B := by omega
  have HBB := Lib.hid hB
  clear hsW hB
  rw [show w.heap.size + 1 + 1 = B from HBB.out.symm]
  go_upto_region 5 with (go_at_call 19; refine (HC2.out _).mono ?_; rintro e w' ⟨rfl, x1, rfl⟩)
  obtain ⟨W5, hW5⟩ : ∃ W5, W5 = x1.w.alloc (bxO X p cp q d) := ⟨_, rfl⟩
  have hn5 := heap_new x1.w (bxO X p cp q d)
  obtain ⟨b8, hb8⟩ : ∃ b8, b8 = x1.w.heap.size := ⟨_, rfl⟩
  rw [← hW5, ← hb8] at hn5
  have hE5 : Ext W W5 := by rw [hW5]; exact Ext.alloc x1.h _
  have hEw5 := HE.out.trans hE5
  have hb8l : W.heap.size ≤ b8 := by rw [hb8]; exact x1.h.size
  have hb8u : b8 < W5.heap.size := (Array.getElem?_eq_some_iff.1 hn5).1
  unfold bxO at hW5
  rw [← hW5, ← hb8]
  have hsays : ∀ y : ExtW W5, Says 91 #[.pointer (some ⟨w.heap.size + 1, 0, none⟩), .pointer (some ⟨b8, 0, none⟩)] y.w X f := fun y => ⟨Try.call91, fun w' v c hw' hu hc => by
    have := seekFn03 X p q cp d h (w.heap.size + 1) b8 f HS.out v c w' hu hc (HR.out.ext ((hEw5.trans y.h).trans hw')) (HG.out.ext ((hEw5.trans y.h).trans hw')) ((Below.block ((hE5.trans y.h).trans hw') _ (by omega)).trans HG1.out) ((Below.block (y.h.trans hw') _ hb8u).trans hn5)
    simpa using this⟩
  have hle := fun y : ExtW W5 => (least03 X HX.out p q cp d long (by rw [HLO.out]; exact Int.le_refl _) 91 #[.pointer (some ⟨w.heap.size + 1, 0, none⟩), .pointer (some ⟨b8, 0, none⟩)] f y.w (HR.out.ext (hEw5.trans y.h)) (HG.out.ext (hEw5.trans y.h)) (hsays y)).mono (R' := ChPost (leastL f (choicesW X long)) W5) (fun _ _ h => h.mono y.h)
  rw [show ((long : Nat) : Int) = X.weeks from HLO.out.symm] at hle
  have HLE := Lib.hid hle
  have r0 := ExtW.cell (hE5.cell (q0 ⟨W, Ext.refl W⟩))
  have d0 := ExtW.cell (v := .int .i64 X.weeks) (cell_of_heap hn5 0)
  have d1 := ExtW.cell (v := .int .i64 X.price) (cell_of_heap hn5 1)
  have d2 := ExtW.cell (v := .int .i64 X.age) (cell_of_heap hn5 2)
  have d3 := ExtW.cell (v := .int .i64 X.step) (cell_of_heap hn5 3)
  have d4 := ExtW.cell (v := .slice p X.rough.length cp) (cell_of_heap hn5 4)
  have d5 := ExtW.cell (v := .slice q X.recs.length d) (cell_of_heap hn5 5)
  have z2 : Hid (∀ x : ExtW W5, x.w.heap[B]? = some (.cells #[.int .i64 0, .int .i64 0, .int .i64 0, .int .i64 0, .slice none 0 0, .slice none 0 0] 88 (0, 0))) := Lib.hid fun x => (Below.block (hE5.trans x.h) _ (by omega)).trans (HBB.out ▸ HG2.out)
  have z3 : Hid (∀ x : ExtW W5, x.w.heap[B + 1]? = some (.cells #[.int .u64 0, .slice none 0 0] 105 (0, 0))) := Lib.hid fun x => (Below.block (hE5.trans x.h) _ (by omega)).trans (by have := HBB.out; rw [this]; exact HG3.out)
  have HE5 := Lib.hid hEw5
  have hsz5 := hE5.size
  obtain ⟨y0, hy0⟩ := ExtW.of (Ext.refl W5)
  have hch : choicesW X X.weeks.toNat = choicesW X long := by rw [HLO.out]; rfl
  have HCH := Lib.hid hch
  clear hW5 hn5 hE5 hEw5 hsays hle q0 q1 q2 q3 q4 q5 HG2 HG3 HG1 HE hb8 hch
  conv => arg 5; rw [hy0]
  clear hy0
  cases hlo : leastL f (choicesW X long) with
  | none =>
    rw [hlo] at HLE
    have HLO2 := Lib.hid hlo
    clear hlo
    go_upto_region 6 with (go_at_call 70; refine (HLE.out _).mono ?_; rintro e W6 ⟨hE6, rfl⟩; unfold zeroCh)
    obtain ⟨x7, hx7⟩ := ExtW.of (Ext.alloc hE6 (.cells #[.int .u64 0, .slice none 0 0] 105))
    have k2 := z2.out x7
    have k3 := z3.out x7
    conv => arg 5; rw [hx7]
    clear hx7
    have f0 := fun k => cell_frozen k2 k
    have f1 := fun k => cell_frozen k3 k
    have c20 : x7.w.cell? ⟨B, 0, none⟩ = some (.int .i64 0) := (cell_of_heap k2 0).trans rfl
    have c21 : x7.w.cell? ⟨B, 1, none⟩ = some (.int .i64 0) := (cell_of_heap k2 1).trans rfl
    have c22 : x7.w.cell? ⟨B, 2, none⟩ = some (.int .i64 0) := (cell_of_heap k2 2).trans rfl
    have c23 : x7.w.cell? ⟨B, 3, none⟩ = some (.int .i64 0) := (cell_of_heap k2 3).trans rfl
    have c24 : x7.w.cell? ⟨B, 4, none⟩ = some (.slice none 0 0) := (cell_of_heap k2 4).trans rfl
    have c25 : x7.w.cell? ⟨B, 5, none⟩ = some (.slice none 0 0) := (cell_of_heap k2 5).trans rfl
    have c30 : x7.w.cell? ⟨B + 1, 0, none⟩ = some (.int .u64 0) := (cell_of_heap k3 0).trans rfl
    have c31 : x7.w.cell? ⟨B + 1, 1, none⟩ = some (.slice none 0 0) := (cell_of_heap k3 1).trans rfl
    have K2 := Lib.hid k2
    have K3 := Lib.hid k3
    have HE7 := Lib.hid (HE5.out.trans x7.h)
    clear k2 k3
    go_wp2
    generalize hWz : World.setCell _ _ _ = Wz
    have hz2 : Wz.heap[B]? = some (.cells #[.int .i64 X.weeks, .int .i64 X.price, .int .i64 X.age, .int .i64 X.step, .slice p X.rough.length cp, .slice q X.recs.length d] 88 (0, 0)) := by
      rw [← hWz]; exact heap_set_ne (by omega) (heap_set_ne (by omega) (heap_set6 K2.out))
    have hz3 : Wz.heap[B + 1]? = some (.cells #[.int .u64 0, .slice none 0 0] 105 (0, 0)) := by
      rw [← hWz]
      refine heap_set2 (a0 := .int .u64 0) (a1 := .slice none 0 0) ?_
      repeat (with_reducible (first | refine heap_set_ne (by omega) ?_ | exact K3.out))
    have hEz : Ext w Wz := by
      rw [← hWz]
      repeat (with_reducible (first | refine Ext.set ?_ (by omega) | exact HE7.out))
    refine bodyPost_ret (v := .tuple #[.agg #[.int .i64 X.weeks, .int .i64 X.price, .int .i64 X.age, .int .i64 X.step, .slice p X.rough.length cp, .slice q X.recs.length d], zeroCh, .int .i64 3]) ?_ rfl ⟨hEz, by rw [HCH.out, HLO2.out]⟩
    have a0 := cell_of_heap hz2 0
    have a1 := cell_of_heap hz2 1
    have a2 := cell_of_heap hz2 2
    have a3 := cell_of_heap hz2 3
    have a4 := cell_of_heap hz2 4
    have a5 := cell_of_heap hz2 5
    have a6 := cell_of_heap hz3 0
    have a7 := cell_of_heap hz3 1
    simp at a0 a1 a2 a3 a4 a5 a6 a7
    simp [results, Try.results61, go_sem, a0, a1, a2, a3, a4, a5, a6, a7, zeroCh]
  | some c =>
    rw [hlo] at HLE
    have HLO2 := Lib.hid hlo
    clear hlo
    go_upto_region 6 with (go_at_call 70; refine (HLE.out _).mono ?_; rintro e W6 ⟨hE6, u, rfl, ⟨mp, mc, rfl, hma, hmb⟩⟩)
    have hn7 := heap_new W6 (.cells #[.int .u64 c.needles, .slice mp c.records.length mc] 105)
    have hma7 := hma.ext (Ext.alloc (Ext.refl W6) (.cells #[.int .u64 c.needles, .slice mp c.records.length mc] 105))
    obtain ⟨x7, hx7⟩ := ExtW.of (Ext.alloc hE6 (.cells #[.int .u64 c.needles, .slice mp c.records.length mc] 105))
    rw [hx7] at hn7 hma7
    have k2 := z2.out x7
    have k3 := z3.out x7
    conv => arg 5; rw [hx7]
    clear hx7
    obtain ⟨b9, hb9⟩ : ∃ b9, b9 = W6.heap.size := ⟨_, rfl⟩
    rw [← hb9] at hn7 ⊢
    have hb9l : B + 1 < b9 := by have := hE6.size; omega
    have e0 : x7.w.cell? ⟨b9, 0, none⟩ = some (.int .u64 c.needles) := (cell_of_heap hn7 0).trans rfl
    have e1 : x7.w.cell? ⟨b9, 1, none⟩ = some (.slice mp c.records.length mc) := (cell_of_heap hn7 1).trans rfl
    have f0 := fun k => cell_frozen k2 k
    have f1 := fun k => cell_frozen k3 k
    have c20 : x7.w.cell? ⟨B, 0, none⟩ = some (.int .i64 0) := (cell_of_heap k2 0).trans rfl
    have c21 : x7.w.cell? ⟨B, 1, none⟩ = some (.int .i64 0) := (cell_of_heap k2 1).trans rfl
    have c22 : x7.w.cell? ⟨B, 2, none⟩ = some (.int .i64 0) := (cell_of_heap k2 2).trans rfl
    have c23 : x7.w.cell? ⟨B, 3, none⟩ = some (.int .i64 0) := (cell_of_heap k2 3).trans rfl
    have c24 : x7.w.cell? ⟨B, 4, none⟩ = some (.slice none 0 0) := (cell_of_heap k2 4).trans rfl
    have c25 : x7.w.cell? ⟨B, 5, none⟩ = some (.slice none 0 0) := (cell_of_heap k2 5).trans rfl
    have c30 : x7.w.cell? ⟨B + 1, 0, none⟩ = some (.int .u64 0) := (cell_of_heap k3 0).trans rfl
    have c31 : x7.w.cell? ⟨B + 1, 1, none⟩ = some (.slice none 0 0) := (cell_of_heap k3 1).trans rfl
    have K2 := Lib.hid k2
    have K3 := Lib.hid k3
    have HE7 := Lib.hid (HE5.out.trans x7.h)
    have HMA := Lib.hid hma7
    have hmb' : ∀ a, mp = some a → B + 1 < a.block ∧ w.heap.size ≤ a.block := fun a ha => by have := hmb a ha; omega
    have HMB := Lib.hid hmb'
    clear k2 k3 hn7 hma hma7 hmb hmb' hb9 hE6
    clear r0
    go_wp2
    go_region
    all_goals go_wp2
    all_goals
      generalize hWz : World.drew _ = Wz
      have hz2 : Wz.heap[B]? = some (.cells #[.int .i64 X.weeks, .int .i64 X.price, .int .i64 X.age, .int .i64 X.step, .slice p X.rough.length cp, .slice q X.recs.length d] 88 (0, 0)) := by
        rw [← hWz]; exact heap_drew (heap_set_ne (by omega) (heap_set_ne (by omega) (heap_set6 K2.out)))
      have hz3 : Wz.heap[B + 1]? = some (.cells #[.int .u64 c.needles, .slice mp c.records.length mc] 105 (0, 0)) := by
        rw [← hWz]
        refine heap_drew (heap_set2 (a0 := .int .u64 0) (a1 := .slice none 0 0) ?_)
        repeat (with_reducible (first | refine heap_set_ne (by omega) ?_ | exact K3.out))
      have hFz : Fr (fun k => k = B ∨ k = B + 1) x7.w Wz := by
        rw [← hWz]
        refine Fr.drew ?_
        repeat (with_reducible (first | exact Fr.refl _ _ | refine Fr.set ?_ (.inl rfl) | refine Fr.set ?_ (.inr rfl)))
      refine bodyPost_ret (v := .tuple #[.agg #[.int .i64 X.weeks, .int .i64 X.price, .int .i64 X.age, .int .i64 X.step, .slice p X.rough.length cp, .slice q X.recs.length d], .agg #[.int .u64 c.needles, .slice mp c.records.length mc], .int .i64 0]) ?_ rfl ⟨Fr.ext HE7.out hFz (fun i hi => by omega), by
        rw [HCH.out, HLO2.out]
        exact ⟨_, rfl, mp, mc, rfl, HMA.out.fr hFz (fun a ha => by have := HMB.out a ha; omega), fun a ha => (HMB.out a ha).2⟩⟩
      have a0 := cell_of_heap hz2 0
      have a1 := cell_of_heap hz2 1
      have a2 := cell_of_heap hz2 2
      have a3 := cell_of_heap hz2 3
      have a4 := cell_of_heap hz2 4
      have a5 := cell_of_heap hz2 5
      have a6 := cell_of_heap hz3 0
      have a7 := cell_of_heap hz3 1
      simp at a0 a1 a2 a3 a4 a5 a6 a7
      simp [results, Try.results61, go_sem, a0, a1, a2, a3, a4, a5, a6, a7]
end Go.Proofs.Ytkcilgjkdiopnaa
