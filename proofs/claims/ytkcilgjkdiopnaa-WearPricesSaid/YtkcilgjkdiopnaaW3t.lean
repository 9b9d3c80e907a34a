/- The walk of Worth, of a valid box. -/
import Derived.Test.YtkcilgjkdiopnaaW3s
import Derived.Deep.RegionHeld3
namespace Go.Proofs.Ytkcilgjkdiopnaa
open Go.RowKit

def StpT (a b : World) : Prop := Ext a b
theorem StpT.out {a b : World} (h : StpT a b) : Ext a b := h
theorem StpT.mk {a b : World} (h : Ext a b) : StpT a b := h
theorem guard_op {ops : Array Oper} {E : Prop} {w : World} {o : Oper} {a : Act} {K : Act → World → Prop} {Q : Exit → Act → World → Prop} (c : Op) (_ho : o.op = c)
    (h : if Region.wanted o (yielded ops a.tmps) = true then Oper.wp Try.prog o a w K Q else E) : if Region.wanted o (yielded ops a.tmps) = true then Oper.wp Try.prog o a w K Q else E := h

/-- the least cost of the first choices, if a needle has a price -/
def minTo (X : Wr) (price m : Int) (l : List Ch) : Int := l.foldl (fun m c => min m (allW X c price)) m
theorem minTo_snoc (X : Wr) (price m : Int) (l : List Ch) (c : Ch) : minTo X price m (l ++ [c]) = min (minTo X price m l) (allW X c price) := by simp [minTo]
theorem minTo_bd {X : Wr} (hX : ValidW X) {price m : Int} (hp : 0 ≤ price ∧ price ≤ 999) (hm : 0 ≤ m ∧ m ≤ 30000) : ∀ (l : List Ch), (∀ c ∈ l, ChOK X c) → 0 ≤ minTo X price m l ∧ minTo X price m l ≤ 30000 := by
  intro l
  induction l generalizing m with
  | nil => intro _; exact hm
  | cons c r ih =>
    intro h
    have := allW_bd hX (h c (by simp)) hp
    exact ih (show 0 ≤ min m (allW X c price) ∧ min m (allW X c price) ≤ 30000 by omega) (fun c hc => h c (by simp [hc]))
def minP (X : Wr) (l : List Ch) (price : Int) : Int := minTo X price (allW X (l.getD 0 ⟨0, []⟩) price) l
/-- a choice of the least cost replaces the needle, if it has a price -/
def paysB (X : Wr) (l : List Ch) (price : Int) : Bool := l.any fun c => decide (c.needles ≠ 0) && decide (allW X c price = minP X l price)
theorem paysB_iff (X : Wr) (l : List Ch) (price : Int) : paysB X l price = true ↔ ∃ c ∈ l, c.needles ≠ 0 ∧ allW X c price = minP X l price := by simp [paysB]
/-- the greatest price below n for which it does -/
def worthTo (X : Wr) (l : List Ch) : Nat → Option Nat
  | 0 => none
  | n + 1 => if paysB X l n = true then some n else worthTo X l n
theorem worthTo_skip (X : Wr) (l : List Ch) {n : Nat} : ∀ N, n ≤ N → (∀ m : Nat, n ≤ m → m < N → paysB X l m = false) → worthTo X l N = worthTo X l n := by
  intro N
  induction N with
  | zero => intro h _; obtain rfl : n = 0 := by omega
            rfl
  | succ N ih =>
    intro h hm
    by_cases e : n = N + 1
    · rw [e]
    · rw [worthTo, if_neg (by rw [hm N (by omega) (by omega)]; simp)]
      exact ih (by omega) (fun m h1 h2 => hm m h1 (by omega))
def worthV (X : Wr) : Value := match bestW X with
  | none => .tuple #[.int .i64 0, .int .i64 3]
  | some _ => match worthTo X (choicesW X X.weeks.toNat) 1000 with
    | some p => .tuple #[.int .i64 p, .int .i64 0]
    | none => .tuple #[.int .i64 0, .int .i64 3]
theorem leastL_none {f : Ch → Int} {l : List Ch} : leastL f l = none ↔ l = [] := by
  have key : ∀ (l : List Ch) (b : Ch), l.foldl (leastS f) (some b) ≠ none := by
    intro l
    induction l with
    | nil => intro b h; cases h
    | cons c r ih =>
      intro b h
      simp only [List.foldl_cons, leastS] at h
      split at h
      · exact ih _ h
      · exact ih _ h
  constructor
  · intro h
    cases l with
    | nil => rfl
    | cons c r => exact absurd h (key r c)
  · intro h; rw [h]; rfl

def ptrInt (u : Value) (w : World) : Nat := match u with
  | .pointer (some a) => match w.cell? a with
    | some v => (intOf v + 1).toNat
    | none => 0
  | _ => 0
theorem ptrInt_eq {w : World} {B : Nat} {n : Int} (h : w.cell? ⟨B, 0, none⟩ = some (.int .i64 n)) : ptrInt (.pointer (some ⟨B, 0, none⟩)) w = (n + 1).toNat := by
  simp only [ptrInt, h, intOf]

set_option maxRecDepth 20000 in
set_option maxHeartbeats 6400000 in
theorem Worth03 (v : Value) (X : Wr) (w : World) (hv : WrV w v X) (hX : ValidW X) (hM : ModestW X) : Calls Try.prog 28 #[v] w (RetE (worthV X) w) := by
  obtain ⟨p, cp, q, d, rfl, hG, hR⟩ := hv
  have hse := fun w' (h : Ext w w') => seek03 X hX p q cp d 62 _ (says_whole X hX) w' hM (hR.ext h) (hG.ext h)
  have HSE := Lib.hid hse
  have HX := Lib.hid hX
  have HR := Lib.hid hR
  have HG := Lib.hid hG
  obtain ⟨wk, hwk⟩ : ∃ wk : Nat, X.weeks = wk := ⟨X.weeks.toNat, by have := hX.weeks; omega⟩
  have hwk6 : wk ≤ 6 := by have := hX.weeks; omega
  have HWK := Lib.hid hwk
  clear hse hX hR hG hM hwk
  go_enter Try.func28, Try.ntmps28
  go_upto_region 1 with (fail)
  obtain ⟨W, hW⟩ : ∃ W, W = w.alloc (.cells #[.int .i64 X.weeks, .int .i64 X.price, .int .i64 X.age, .int .i64 X.step, .slice p X.rough.length cp, .slice q X.recs.length d] 25) := ⟨_, rfl⟩
  have hn := heap_new w (.cells #[.int .i64 X.weeks, .int .i64 X.price, .int .i64 X.age, .int .i64 X.step, .slice p X.rough.length cp, .slice q X.recs.length d] 25)
  have hE : Ext w W := by rw [hW]; exact Ext.alloc (Ext.refl w) _
  rw [← hW] at hn ⊢
  have q0 := cell_of_heap hn 0
  have q1 := cell_of_heap hn 1
  have q2 := cell_of_heap hn 2
  have q3 := cell_of_heap hn 3
  have q4 := cell_of_heap hn 4
  have q5 := cell_of_heap hn 5
  simp at q0 q1 q2 q3 q4 q5
  have HS := Lib.hid (HSE.out W hE)
  have HE := Lib.hid hE
  have HNW := Lib.hid hn
  clear hW hn hE HSE
  cases hb : bestW X with
  | none =>
    have hb' := hb
    unfold bestW at hb'
    rw [hb'] at HS
    have HB := Lib.hid hb
    clear hb hb'
    go_wp2_with (go_at_call 61; refine HS.out.mono ?_; rintro e W2 ⟨hE2, rfl⟩; unfold zeroCh)
    go_ret2
    refine RetE.fin ?_ (by unfold worthV; rw [HB.out]; rfl)
    have := HE.out.trans hE2
    repeat (with_reducible (first | refine Ext.drew ?_ | refine Ext.alloc ?_ _ | exact this))
  | some bc =>
    have hb' := hb
    unfold bestW at hb'
    rw [hb'] at HS
    have hne : choicesW X wk ≠ [] := fun e => by
      have h1 : choicesW X X.weeks.toNat = [] := by rw [HWK.out]; exact e
      rw [h1] at hb'
      cases hb'
    have HB := Lib.hid hb
    clear hb hb'
    obtain ⟨L, hL⟩ : ∃ L, L = choicesW X wk := ⟨_, rfl⟩
    have hok : ∀ c ∈ L, ChOK X c := fun c hc => choices_ok HX.out hwk6 (hL ▸ hc)
    have hlen : L.length ≤ 64 := by
      have h1 := List.length_filterMap_le (fun N => chooseW X N wk) (List.range (2 ^ wk))
      have h2 : 2 ^ wk ≤ 64 := Nat.pow_le_pow_right (n := 2) (by decide) hwk6
      rw [hL]
      unfold choicesW
      rw [List.length_range] at h1
      omega
    have hpos : 0 < L.length := by rw [hL]; exact List.length_pos_iff.2 hne
    have HOKL := Lib.hid hok
    have HWV : Hid (worthV X = match worthTo X L 1000 with | some p => .tuple #[.int .i64 p, .int .i64 0] | none => .tuple #[.int .i64 0, .int .i64 3]) := Lib.hid (by
      unfold worthV
      rw [HB.out, hL, HWK.out]
      rfl)
    have HL := Lib.hid hL
    clear hok hne hL
    go_upto_region 2 with (go_at_call 61; refine HS.out.mono ?_; rintro e W2 ⟨hE2, u, rfl, ⟨mp, mc, rfl, hma, -⟩⟩)
    obtain ⟨W3, hW3⟩ : ∃ W3, W3 = (W2.alloc (bxO X p cp q d)).alloc (.cells #[.int .u64 bc.needles, .slice mp bc.records.length mc] 105) := ⟨_, rfl⟩
    have g0 := heap_new1 W2 (bxO X p cp q d) (.cells #[.int .u64 bc.needles, .slice mp bc.records.length mc] 105)
    rw [← hW3] at g0
    have hE3 : Ext W2 W3 := by rw [hW3]; exact Ext.alloc (Ext.alloc (Ext.refl _) _) _
    unfold bxO at hW3
    rw [← hW3]
    obtain ⟨bb, hbb⟩ : ∃ bb, bb = W2.heap.size := ⟨_, rfl⟩
    rw [← hbb] at g0 ⊢
    have hEw := (HE.out.trans hE2).trans hE3
    have hbbl : bb < W3.heap.size := (Array.getElem?_eq_some_iff.1 g0).1
    have d0 : W3.cell? ⟨bb, 0, none⟩ = some (.int .i64 X.weeks) := (cell_of_heap g0 0).trans rfl
    have d1 : W3.cell? ⟨bb, 1, none⟩ = some (.int .i64 X.price) := (cell_of_heap g0 1).trans rfl
    have d2 : W3.cell? ⟨bb, 2, none⟩ = some (.int .i64 X.age) := (cell_of_heap g0 2).trans rfl
    have d3 : W3.cell? ⟨bb, 3, none⟩ = some (.int .i64 X.step) := (cell_of_heap g0 3).trans rfl
    have d4 : W3.cell? ⟨bb, 4, none⟩ = some (.slice p X.rough.length cp) := (cell_of_heap g0 4).trans rfl
    have d5 : W3.cell? ⟨bb, 5, none⟩ = some (.slice q X.recs.length d) := (cell_of_heap g0 5).trans rfl
    have r0 : W3.cell? ⟨w.heap.size, 0, none⟩ = some (.int .i64 wk) := by rw [← HWK.out]; exact (hE2.trans hE3).cell ((cell_of_heap HNW.out 0).trans rfl)
    have HCI := Lib.hid (choices03 X p q cp d wk W3)
    have HW3 := Lib.hid hEw
    have HG0 := Lib.hid g0
    clear hW3 g0 hE3 hEw hE2 hma hbb q0 q1 q2 q3 q4 q5 HNW HE
    go_upto_region 5 with (first
      | (go_at_call 64; refine HCI.out.mono ?_; rintro e W4 ⟨rfl, i0, i1, hE4⟩; have hco := Collect03 X HX.out p q cp d wk W3.heap.size (by rw [HWK.out]; exact Int.le_refl _) W4 w ⟨i0, i1, HW3.out.trans hE4⟩ HR.out HG.out; rw [← HL.out] at hco; have HCO := Lib.hid hco; clear i0 i1 hco)
      | (go_at_call 63; refine HCO.out.mono ?_; rintro e W5 ⟨_, rfl, ⟨lp, lc, rfl, hch⟩, hE5⟩))
    have hE35 := hE4.trans hE5
    have hbb5 := (Below.block hE35 bb hbbl).trans HG0.out
    have hEw5 := HW3.out.trans hE35
    have hsz5 := hE35.size
    obtain ⟨b0', o0', q0', c0', rfl, -, -, -⟩ := id (hch 0 hpos)
    have HCHL := Lib.hid hch
    have HBB := Lib.hid hbb5
    have HE5 := Lib.hid hEw5
    clear HCI HCO hE4 hE5 hE35 hbb5 hEw5 hch d0 d1 d2 d3 d4 d5 r0
    go_upto_region 6 with (fail)
    obtain ⟨W6, hW6⟩ : ∃ W6, W6 = W5.alloc (.cells #[.int .i64 999] 3) := ⟨_, rfl⟩
    have hn6 := heap_new W5 (.cells #[.int .i64 999] 3)
    have hE6 : Ext W5 W6 := by rw [hW6]; exact Ext.alloc (Ext.refl _) _
    rw [← hW6] at hn6 ⊢
    have HN6 := Lib.hid hn6
    have HE6 := Lib.hid hE6
    clear hW6 hn6 hE6
    go_loopw [8] (fun t8 wr => ∃ n PB : Nat, n ≤ 1000 ∧ t8 = .pointer (some ⟨PB, 0, none⟩) ∧ wr.heap[PB]? = some (.cells #[.int .i64 ((n : Int) - 1)] 3 (0, 0)) ∧ W5.heap.size ≤ PB ∧ (∀ m : Nat, n ≤ m → m < 1000 → paysB X L m = false) ∧ Ext W5 wr) ptrInt
    case atStart => exact ⟨1000, W5.heap.size, by omega, rfl, HN6.out, Nat.le_refl _, fun m h1 h2 => absurd h1 (by omega), HE6.out⟩
    case round =>
      clear HN6 HE6
      clear W6
      obtain ⟨n, PB, hn, rfl, hpb, hPB, hno, hEr⟩ := hrel
      have HNO := Lib.hid hno
      have HER := Lib.hid hEr
      have HPB := Lib.hid hpb
      have hpc : wr.cell? ⟨PB, 0, none⟩ = some (.int .i64 ((n : Int) - 1)) := (cell_of_heap hpb 0).trans rfl
      clear hno hEr hpb
      by_cases h0 : n = 0
      · subst h0
        go_wp2
        go_ret2
        refine RetE.fin (HE5.out.trans HER.out) ?_
        rw [HWV.out, worthTo_skip X L 1000 (by omega) HNO.out]
        rfl
      · obtain ⟨pr, rfl⟩ : ∃ pr, n = pr + 1 := ⟨n - 1, by omega⟩
        rw [show ((pr + 1 : Nat) : Int) - 1 = (pr : Int) by omega] at hpc
        rw [show ((pr + 1 : Nat) : Int) - 1 = (pr : Int) by omega] at HPB
        have hprb : (0 : Int) ≤ pr ∧ (pr : Int) ≤ 999 := by omega
        have hbb := (Below.block HER.out bb (by omega)).trans HBB.out
        obtain ⟨b0x, o0x, q0, c0, he0, k0, k1, km⟩ := (HCHL.out.ext HER.out) 0 hpos
        cases he0
        have hEwr := HE5.out.trans HER.out
        have hPBl := (Array.getElem?_eq_some_iff.1 HPB.out).1
        have hS : ∀ z, Ext wr z → (z.cell? ⟨bb, 0, none⟩ = some (.int .i64 X.weeks) ∧ z.cell? ⟨bb, 1, none⟩ = some (.int .i64 X.price) ∧ z.cell? ⟨bb, 2, none⟩ = some (.int .i64 X.age) ∧ z.cell? ⟨bb, 3, none⟩ = some (.int .i64 X.step) ∧ z.cell? ⟨bb, 4, none⟩ = some (.slice p X.rough.length cp) ∧ z.cell? ⟨bb, 5, none⟩ = some (.slice q X.recs.length d)) ∧ z.cell? ⟨b0', o0', none⟩ = some (.int .u64 L[0].needles) ∧ z.cell? ⟨b0', o0' + 1, none⟩ = some (.slice q0 L[0].records.length c0) ∧ z.cell? ⟨PB, 0, none⟩ = some (.int .i64 pr) := fun z hz =>
          ⟨⟨hz.cell ((cell_of_heap hbb 0).trans rfl), hz.cell ((cell_of_heap hbb 1).trans rfl), hz.cell ((cell_of_heap hbb 2).trans rfl), hz.cell ((cell_of_heap hbb 3).trans rfl), hz.cell ((cell_of_heap hbb 4).trans rfl), hz.cell ((cell_of_heap hbb 5).trans rfl)⟩, by simpa using hz.cell k0, by simpa using hz.cell k1, hz.cell hpc⟩
        have HSS := Lib.hid hS
        have HAL := Lib.hid (fun z (hz : Ext wr z) => all03 (.agg #[.int .i64 X.weeks, .int .i64 X.price, .int .i64 X.age, .int .i64 X.step, .slice p X.rough.length cp, .slice q X.recs.length d]) (.agg #[.int .u64 L[0].needles, .slice q0 L[0].records.length c0]) X L[0] pr z ⟨_, _, _, _, rfl, HG.out.ext (hEwr.trans hz), HR.out.ext (hEwr.trans hz)⟩ HX.out ⟨_, _, rfl, km.ext hz⟩ (HOKL.out _ (List.getElem_mem hpos)) hprb)
        have HX0 := Lib.hid (Ext.refl wr)
        have HKM := Lib.hid km
        have HBW := Lib.hid hbb
        obtain ⟨a0, ha0⟩ : ∃ a0, a0 = allW X L[0] pr := ⟨_, rfl⟩
        have HA0 := Lib.hid ha0
        rw [← ha0] at HAL
        clear hS k0 k1 km hEwr ha0 hbb h0
        go_upto_region 8 with (fail)
        go_region_held3 (fun z => (z.cell? ⟨bb, 0, none⟩ = some (.int .i64 X.weeks) ∧ z.cell? ⟨bb, 1, none⟩ = some (.int .i64 X.price) ∧ z.cell? ⟨bb, 2, none⟩ = some (.int .i64 X.age) ∧ z.cell? ⟨bb, 3, none⟩ = some (.int .i64 X.step) ∧ z.cell? ⟨bb, 4, none⟩ = some (.slice p X.rough.length cp) ∧ z.cell? ⟨bb, 5, none⟩ = some (.slice q X.recs.length d)) ∧ z.cell? ⟨b0', o0', none⟩ = some (.int .u64 L[0].needles) ∧ z.cell? ⟨b0', o0' + 1, none⟩ = some (.slice q0 L[0].records.length c0) ∧ z.cell? ⟨PB, 0, none⟩ = some (.int .i64 pr))
          ((refine HSS.out _ ?_; repeat (first | with_reducible exact HX0.out | with_reducible refine Ext.alloc ?_ _ | with_reducible refine Ext.drew ?_ | with_reducible refine Ext.trans ?_ (StpT.out (by assumption)) | refine Ext.set ?_ (by omega))))
          (first
          | (go_at_call 65; refine (HAL.out _ (by repeat (first | with_reducible exact HX0.out | with_reducible refine Ext.alloc ?_ _ | with_reducible refine Ext.drew ?_ | with_reducible refine Ext.trans ?_ (StpT.out (by assumption))))).mono ?_; rintro e w6 ⟨rfl, hE6⟩; have hS6 := StpT.mk hE6; obtain ⟨hr1, hr2⟩ := Ext.rules hE6; clear hE6))
        · have hl9 := heap_new w6 (.cells #[.int .i64 a0] 3)
          have hEw6 : Ext wr w6 := (by repeat (first | with_reducible exact HX0.out | with_reducible refine Ext.alloc ?_ _ | with_reducible refine Ext.drew ?_ | with_reducible refine Ext.trans ?_ (StpT.out (by assumption))))
          have hE9 : Ext wr (w6.alloc (.cells #[.int .i64 a0] 3)) := Ext.alloc hEw6 _
          have hLBw := hEw6.size
          obtain ⟨LB, hLB⟩ : ∃ LB, LB = w6.heap.size := ⟨_, rfl⟩
          obtain ⟨W9, hW9⟩ : ∃ W9, W9 = w6.alloc (.cells #[.int .i64 a0] 3) := ⟨_, rfl⟩
          rw [← hLB, ← hW9] at hl9
          rw [← hLB] at hLBw
          rw [← hW9] at hE9
          rw [← hLB, ← hW9]
          have HL9 := Lib.hid hl9
          have HE9 := Lib.hid hE9
          clear hW9 hl9 hE9 hEw6 hr1 hr2 hLB hS6
          have ha0b : 0 ≤ a0 ∧ a0 ≤ 30000 := by rw [HA0.out]; exact allW_bd HX.out (HOKL.out _ (List.getElem_mem hpos)) hprb
          have HZ : Hid (∀ z, Fr (fun i => i = LB) W9 z → Ext wr z) := Lib.hid fun z hz => Fr.ext HE9.out hz (fun i hi => by have e : i = LB := hi; omega)
          have HCH2 : Hid (ChsAt wr (some ⟨b0', o0', none⟩) L) := Lib.hid (HCHL.out.ext HER.out)
          have HEW2 : Hid (Ext w wr) := Lib.hid (HE5.out.trans HER.out)
          have HSB : Hid (∀ z, Ext wr z → (z.cell? ⟨bb, 0, none⟩ = some (.int .i64 X.weeks) ∧ z.cell? ⟨bb, 1, none⟩ = some (.int .i64 X.price) ∧ z.cell? ⟨bb, 2, none⟩ = some (.int .i64 X.age) ∧ z.cell? ⟨bb, 3, none⟩ = some (.int .i64 X.step) ∧ z.cell? ⟨bb, 4, none⟩ = some (.slice p X.rough.length cp) ∧ z.cell? ⟨bb, 5, none⟩ = some (.slice q X.recs.length d)) ∧ z.cell? ⟨PB, 0, none⟩ = some (.int .i64 pr)) := Lib.hid fun z hz => ⟨(HSS.out z hz).1, (HSS.out z hz).2.2.2⟩
          clear HSS hpc
          go_wp2
          go_loopw [38] (fun i wr => ∃ k : Nat, k ≤ L.length ∧ i = .int .i64 k ∧ wr.heap[LB]? = some (.cells #[.int .i64 (minTo X pr a0 (L.take k))] 3 (0, 0)) ∧ Fr (fun i => i = LB) W9 wr) (fun i _ => L.length - (intOf i).toNat)
          case atStart => exact ⟨0, by omega, rfl, HL9.out, Fr.refl _ _⟩
          case round =>
            obtain ⟨k, hk, rfl, hl, hF⟩ := hrel
            have HLK := Lib.hid hl
            have HF := Lib.hid hF
            have hEz := HZ.out wr hF
            clear hl hF
            by_cases hlk : k < L.length
            · obtain ⟨b1x, o1x, q1, c1, he1, k0, k1, km⟩ := (HCH2.out.ext hEz) k hlk
              cases he1
              have hmt := minTo_bd HX.out hprb ha0b (L.take k) (fun c hc => HOKL.out c (List.mem_of_mem_take hc))
              have hsn := minTo_snoc X pr a0 (L.take k) L[k]
              rw [← List.take_succ_eq_append_getElem hlk] at hsn
              have hokc := HOKL.out _ (List.getElem_mem hlk)
              have hab := allW_bd HX.out hokc hprb
              have hall := fun z (hz : Ext wr z) => all03 (.agg #[.int .i64 X.weeks, .int .i64 X.price, .int .i64 X.age, .int .i64 X.step, .slice p X.rough.length cp, .slice q X.recs.length d]) (.agg #[.int .u64 L[k].needles, .slice q1 L[k].records.length c1]) X L[k] pr z ⟨_, _, _, _, rfl, HG.out.ext ((HEW2.out.trans hEz).trans hz), HR.out.ext ((HEW2.out.trans hEz).trans hz)⟩ HX.out ⟨_, _, rfl, km.ext hz⟩ hokc hprb
              obtain ⟨mk, hmk⟩ : ∃ mk, mk = minTo X pr a0 (L.take k) := ⟨_, rfl⟩
              obtain ⟨aw, haw⟩ : ∃ aw, aw = allW X L[k] pr := ⟨_, rfl⟩
              rw [← hmk] at hmt hsn HLK
              rw [← haw] at hsn hab hall
              obtain ⟨nx, hnx⟩ : ∃ nx, nx = L[k].needles := ⟨_, rfl⟩
              obtain ⟨rx, hrx⟩ : ∃ rx, rx = L[k].records.length := ⟨_, rfl⟩
              rw [← hnx] at k0 hall
              rw [← hrx] at k1 hall
              have HALL := Lib.hid hall
              have HSN := Lib.hid hsn
              have hif : (if aw < mk then aw else mk) = min mk aw := by rw [Int.min_def]; split <;> split <;> omega
              have HSBW := Lib.hid (fun z (hz : Ext wr z) => HSB.out z (hEz.trans hz))
              clear hall hsn hmk haw hnx hrx km hEz hokc
              go_upto_region 12 with (fail)
              obtain ⟨H, hH⟩ : ∃ H, H = wr.heap.size := ⟨_, rfl⟩
              have hn := heap_new wr (.cells #[.int .u64 nx, .slice q1 rx c1] 105)
              obtain ⟨Wb, hWb⟩ : ∃ Wb, Wb = wr.alloc (.cells #[.int .u64 nx, .slice q1 rx c1] 105) := ⟨_, rfl⟩
              have hEb : Ext wr Wb := by rw [hWb]; exact Ext.alloc (Ext.refl _) _
              rw [← hWb, ← hH] at hn
              rw [← hWb, ← hH]
              have hS : ∀ z, Ext Wb z → z.cell? ⟨LB, 0, none⟩ = some (.int .i64 mk) ∧ (z.cell? ⟨bb, 0, none⟩ = some (.int .i64 X.weeks) ∧ z.cell? ⟨bb, 1, none⟩ = some (.int .i64 X.price) ∧ z.cell? ⟨bb, 2, none⟩ = some (.int .i64 X.age) ∧ z.cell? ⟨bb, 3, none⟩ = some (.int .i64 X.step) ∧ z.cell? ⟨bb, 4, none⟩ = some (.slice p X.rough.length cp) ∧ z.cell? ⟨bb, 5, none⟩ = some (.slice q X.recs.length d)) ∧ z.cell? ⟨H, 0, none⟩ = some (.int .u64 nx) ∧ z.cell? ⟨H, 1, none⟩ = some (.slice q1 rx c1) ∧ z.cell? ⟨PB, 0, none⟩ = some (.int .i64 pr) := fun z hz =>
                ⟨(hEb.trans hz).cell ((cell_of_heap HLK.out 0).trans rfl), (HSBW.out z (hEb.trans hz)).1, hz.cell ((cell_of_heap hn 0).trans rfl), hz.cell ((cell_of_heap hn 1).trans rfl), (HSBW.out z (hEb.trans hz)).2⟩
              have HS2 := Lib.hid hS
              have HS0 := Lib.hid (hS _ (Ext.refl Wb).drew)
              have HEB := Lib.hid hEb
              have HLb := Lib.hid ((Below.block hEb LB (Array.getElem?_eq_some_iff.1 HLK.out).1).trans HLK.out)
              clear hWb hn hEb hS k0 k1 hH
              refine wp_region_heldT (fun z => z.cell? ⟨LB, 0, none⟩ = some (.int .i64 mk) ∧ (z.cell? ⟨bb, 0, none⟩ = some (.int .i64 X.weeks) ∧ z.cell? ⟨bb, 1, none⟩ = some (.int .i64 X.price) ∧ z.cell? ⟨bb, 2, none⟩ = some (.int .i64 X.age) ∧ z.cell? ⟨bb, 3, none⟩ = some (.int .i64 X.step) ∧ z.cell? ⟨bb, 4, none⟩ = some (.slice p X.rough.length cp) ∧ z.cell? ⟨bb, 5, none⟩ = some (.slice q X.recs.length d)) ∧ z.cell? ⟨H, 0, none⟩ = some (.int .u64 nx) ∧ z.cell? ⟨H, 1, none⟩ = some (.slice q1 rx c1) ∧ z.cell? ⟨PB, 0, none⟩ = some (.int .i64 pr)) 6
                [(true, 0), (true, 1), (true, 2), (true, 3), (false, 4), (true, 5)] (by kernel_rfl) (by kernel_rfl) HS0.out ?_
              simp only [List.map_cons, List.map_nil, List.getElem?_cons_zero, List.getElem?_cons_succ]
              repeat (refine wpHL_take (v := ?_) (by rfl) ?_ (fun _ _ _ h => h) ?_; rotate_left 1; (intro z hz; (try dsimp only at hz); go_simp; (try with_reducible rfl)); simp only [Act.put, List.setIfInBounds_toArray, List.set_cons_zero, List.set_cons_succ])
              refine wpHL_step (fun K hK => ?_)
              go_simp
              refine (HALL.out _ (HEB.out.trans (by repeat (first | exact Ext.refl _ | refine Ext.drew ?_)))).mono ?_
              rintro e w6 ⟨rfl, hE6⟩
              have hE6b : Ext Wb w6 := (Ext.refl Wb).drew.trans hE6
              refine hK.out _ _ (HS2.out w6 hE6b) ?_
              clear hK K hE6
              try simp only [Act.put, List.setIfInBounds_toArray, List.set_cons_zero, List.set_cons_succ]
              repeat (refine wpHL_take (v := ?_) (by rfl) ?_ (fun _ _ _ h => h) ?_; rotate_left 1; (intro z hz; (try dsimp only at hz); go_simp; (try with_reducible rfl)); simp only [Act.put, List.setIfInBounds_toArray, List.set_cons_zero, List.set_cons_succ])
              refine wpHL_nil ?_
              simp only [List.drop_succ_cons, List.drop_zero]
              have hl6 := (Below.block hE6b LB (Array.getElem?_eq_some_iff.1 HLb.out).1).trans HLb.out
              have z0 : w6.cell? ⟨LB, 0, none⟩ = some (.int .i64 mk) := (cell_of_heap hl6 0).trans rfl
              have z1 := cell_frozen hl6 0
              have HL6 := Lib.hid hl6
              have HE6 := Lib.hid hE6b
              clear hl6 hE6b
              go_wp2
              go_roundw
              case rel =>
                refine ⟨k + 1, by omega, by go_num, ?_, ((HF.out.trans (HEB.out.fr _)).trans (HE6.out.fr _)).set rfl⟩
                rw [HSN.out]
                exact heap_set HL6.out (by first | rfl | (rw [hif]; rfl))
              case measure => simp [intOf]; omega
            · obtain rfl : k = L.length := by omega
              rw [List.take_length] at HLK
              have hmin : minTo X pr a0 L = minP X L pr := by
                unfold minP
                rw [HA0.out, show L.getD 0 ⟨0, []⟩ = L[0] from by simp [List.getD, hpos]]
              rw [hmin] at HLK
              have hsb := HSB.out wr hEz
              have hask : Asks ChV 67 #[] #[.pointer (some ⟨bb, 0, none⟩), .pointer (some ⟨PB, 0, none⟩), .pointer (some ⟨LB, 0, none⟩)] wr L (fun c => c.needles ≠ 0 ∧ allW X c pr = minP X L pr) := ⟨Try.call67, fun w' v c hw' hc hv => by
                have h1 := (HEW2.out.trans hEz).trans hw'
                have := worthFn03 X HX.out p q cp d bb PB LB pr (minP X L pr) hprb v c w' hv (HOKL.out c hc) (HR.out.ext h1) (HG.out.ext h1) ((Below.block (hEz.trans hw') bb (by have := (Array.getElem?_eq_some_iff.1 HBW.out).1; omega)).trans HBW.out) (hw'.cell hsb.2) (hw'.cell ((cell_of_heap HLK.out 0).trans rfl))
                simpa using this⟩
              have hcf := ContainsFuncCh (some ⟨b0', o0', none⟩) L lc 67 #[.pointer (some ⟨bb, 0, none⟩), .pointer (some ⟨PB, 0, none⟩), .pointer (some ⟨LB, 0, none⟩)] wr _ (by omega) (HCH2.out.ext hEz) hask
              have hpc2 := fun z (hz : Ext wr z) => (HSB.out z (hEz.trans hz)).2
              have HPC := Lib.hid hpc2
              have HEZ := Lib.hid hEz
              clear hsb hask hpc2 hmin hEz
              by_cases hpay : ∃ c ∈ L, c.needles ≠ 0 ∧ allW X c pr = minP X L pr
              · rw [bP_t hpay] at hcf
                have HCF := Lib.hid hcf
                have HPAY := Lib.hid ((paysB_iff X L pr).2 hpay)
                clear hcf hpay
                go_wp2_with (go_at_call 66; refine HCF.out.mono ?_; rintro e w7 ⟨rfl, hE7⟩; have hp7 := HPC.out w7 hE7)
                go_ret2
                refine RetE.fin ((HEW2.out.trans HEZ.out).trans hE7) ?_
                rw [HWV.out, worthTo_skip X L 1000 hn HNO.out, worthTo, if_pos HPAY.out]
                rfl
              · have hpf : paysB X L pr = false := by
                  cases h : paysB X L pr with
                  | false => rfl
                  | true => exact absurd ((paysB_iff X L pr).1 h) hpay
                rw [bP_f hpay] at hcf
                have HCF := Lib.hid hcf
                have HPAY := Lib.hid hpf
                clear hcf hpay hpf
                go_wp2_with (go_at_call 66; refine HCF.out.mono ?_; rintro e w7 ⟨rfl, hE7⟩; have hp7 := HPC.out w7 hE7)
                go_roundw
                case rel =>
                  have hE57 := (HER.out.trans HEZ.out).trans hE7
                  refine ⟨pr, w7.heap.size, by omega, rfl, heap_new _ _, hE57.size, fun m h1 h2 => ?_, Ext.alloc hE57 _⟩
                  by_cases e : m = pr
                  · rw [e]; exact HPAY.out
                  · exact HNO.out m (by omega) h2
                case measure =>
                  rw [ptrInt_eq (n := (pr : Int) - 1) ((cell_of_heap (heap_new _ _) 0).trans rfl), ptrInt_eq (n := (pr : Int)) ((cell_of_heap HPB.out 0).trans rfl)]
                  omega
        · have hLBx : w6.heap[wr.heap.size]? = some (.cells #[.int .i64 0] 3 (0, 0)) := (Below.block hS6.out _ (by show wr.heap.size < (wr.alloc _).heap.size; rw [size_alloc]; exact Nat.lt_succ_self _)).trans (heap_new _ _)
          obtain ⟨LB, hLB⟩ : ∃ LB, LB = wr.heap.size := ⟨_, rfl⟩
          have hEw6 : Ext wr w6 := (by repeat (first | with_reducible exact HX0.out | with_reducible refine Ext.alloc ?_ _ | with_reducible refine Ext.drew ?_ | with_reducible refine Ext.trans ?_ (StpT.out (by assumption))))
          have hLBw : wr.heap.size ≤ LB := by omega
          rw [← hLB] at hLBx ⊢
          generalize hW9 : World.setCell _ _ _ = W9
          have hl9 : W9.heap[LB]? = some (.cells #[.int .i64 a0] 3 (0, 0)) := by
            rw [← hW9]
            repeat (with_reducible (first | refine heap_drew ?_ | apply heap_set | exact hLBx))
            all_goals rfl
          have hE9 : Ext wr W9 := by
            rw [← hW9]
            repeat (with_reducible (first | refine Ext.drew ?_ | refine Ext.set ?_ hLBw | exact hEw6))
          have HL9 := Lib.hid hl9
          have HE9 := Lib.hid hE9
          clear hW9 hl9 hE9 hLBx hEw6 hr1 hr2 hLB hS6
          have ha0b : 0 ≤ a0 ∧ a0 ≤ 30000 := by rw [HA0.out]; exact allW_bd HX.out (HOKL.out _ (List.getElem_mem hpos)) hprb
          have HZ : Hid (∀ z, Fr (fun i => i = LB) W9 z → Ext wr z) := Lib.hid fun z hz => Fr.ext HE9.out hz (fun i hi => by have e : i = LB := hi; omega)
          have HCH2 : Hid (ChsAt wr (some ⟨b0', o0', none⟩) L) := Lib.hid (HCHL.out.ext HER.out)
          have HEW2 : Hid (Ext w wr) := Lib.hid (HE5.out.trans HER.out)
          have HSB : Hid (∀ z, Ext wr z → (z.cell? ⟨bb, 0, none⟩ = some (.int .i64 X.weeks) ∧ z.cell? ⟨bb, 1, none⟩ = some (.int .i64 X.price) ∧ z.cell? ⟨bb, 2, none⟩ = some (.int .i64 X.age) ∧ z.cell? ⟨bb, 3, none⟩ = some (.int .i64 X.step) ∧ z.cell? ⟨bb, 4, none⟩ = some (.slice p X.rough.length cp) ∧ z.cell? ⟨bb, 5, none⟩ = some (.slice q X.recs.length d)) ∧ z.cell? ⟨PB, 0, none⟩ = some (.int .i64 pr)) := Lib.hid fun z hz => ⟨(HSS.out z hz).1, (HSS.out z hz).2.2.2⟩
          clear HSS hpc
          go_wp2
          go_loopw [38] (fun i wr => ∃ k : Nat, k ≤ L.length ∧ i = .int .i64 k ∧ wr.heap[LB]? = some (.cells #[.int .i64 (minTo X pr a0 (L.take k))] 3 (0, 0)) ∧ Fr (fun i => i = LB) W9 wr) (fun i _ => L.length - (intOf i).toNat)
          case atStart => exact ⟨0, by omega, rfl, HL9.out, Fr.refl _ _⟩
          case round =>
            obtain ⟨k, hk, rfl, hl, hF⟩ := hrel
            have HLK := Lib.hid hl
            have HF := Lib.hid hF
            have hEz := HZ.out wr hF
            clear hl hF
            by_cases hlk : k < L.length
            · obtain ⟨b1x, o1x, q1, c1, he1, k0, k1, km⟩ := (HCH2.out.ext hEz) k hlk
              cases he1
              have hmt := minTo_bd HX.out hprb ha0b (L.take k) (fun c hc => HOKL.out c (List.mem_of_mem_take hc))
              have hsn := minTo_snoc X pr a0 (L.take k) L[k]
              rw [← List.take_succ_eq_append_getElem hlk] at hsn
              have hokc := HOKL.out _ (List.getElem_mem hlk)
              have hab := allW_bd HX.out hokc hprb
              have hall := fun z (hz : Ext wr z) => all03 (.agg #[.int .i64 X.weeks, .int .i64 X.price, .int .i64 X.age, .int .i64 X.step, .slice p X.rough.length cp, .slice q X.recs.length d]) (.agg #[.int .u64 L[k].needles, .slice q1 L[k].records.length c1]) X L[k] pr z ⟨_, _, _, _, rfl, HG.out.ext ((HEW2.out.trans hEz).trans hz), HR.out.ext ((HEW2.out.trans hEz).trans hz)⟩ HX.out ⟨_, _, rfl, km.ext hz⟩ hokc hprb
              obtain ⟨mk, hmk⟩ : ∃ mk, mk = minTo X pr a0 (L.take k) := ⟨_, rfl⟩
              obtain ⟨aw, haw⟩ : ∃ aw, aw = allW X L[k] pr := ⟨_, rfl⟩
              rw [← hmk] at hmt hsn HLK
              rw [← haw] at hsn hab hall
              obtain ⟨nx, hnx⟩ : ∃ nx, nx = L[k].needles := ⟨_, rfl⟩
              obtain ⟨rx, hrx⟩ : ∃ rx, rx = L[k].records.length := ⟨_, rfl⟩
              rw [← hnx] at k0 hall
              rw [← hrx] at k1 hall
              have HALL := Lib.hid hall
              have HSN := Lib.hid hsn
              have hif : (if aw < mk then aw else mk) = min mk aw := by rw [Int.min_def]; split <;> split <;> omega
              have HSBW := Lib.hid (fun z (hz : Ext wr z) => HSB.out z (hEz.trans hz))
              clear hall hsn hmk haw hnx hrx km hEz hokc
              go_upto_region 12 with (fail)
              obtain ⟨H, hH⟩ : ∃ H, H = wr.heap.size := ⟨_, rfl⟩
              have hn := heap_new wr (.cells #[.int .u64 nx, .slice q1 rx c1] 105)
              obtain ⟨Wb, hWb⟩ : ∃ Wb, Wb = wr.alloc (.cells #[.int .u64 nx, .slice q1 rx c1] 105) := ⟨_, rfl⟩
              have hEb : Ext wr Wb := by rw [hWb]; exact Ext.alloc (Ext.refl _) _
              rw [← hWb, ← hH] at hn
              rw [← hWb, ← hH]
              have hS : ∀ z, Ext Wb z → z.cell? ⟨LB, 0, none⟩ = some (.int .i64 mk) ∧ (z.cell? ⟨bb, 0, none⟩ = some (.int .i64 X.weeks) ∧ z.cell? ⟨bb, 1, none⟩ = some (.int .i64 X.price) ∧ z.cell? ⟨bb, 2, none⟩ = some (.int .i64 X.age) ∧ z.cell? ⟨bb, 3, none⟩ = some (.int .i64 X.step) ∧ z.cell? ⟨bb, 4, none⟩ = some (.slice p X.rough.length cp) ∧ z.cell? ⟨bb, 5, none⟩ = some (.slice q X.recs.length d)) ∧ z.cell? ⟨H, 0, none⟩ = some (.int .u64 nx) ∧ z.cell? ⟨H, 1, none⟩ = some (.slice q1 rx c1) ∧ z.cell? ⟨PB, 0, none⟩ = some (.int .i64 pr) := fun z hz =>
                ⟨(hEb.trans hz).cell ((cell_of_heap HLK.out 0).trans rfl), (HSBW.out z (hEb.trans hz)).1, hz.cell ((cell_of_heap hn 0).trans rfl), hz.cell ((cell_of_heap hn 1).trans rfl), (HSBW.out z (hEb.trans hz)).2⟩
              have HS2 := Lib.hid hS
              have HS0 := Lib.hid (hS _ (Ext.refl Wb).drew)
              have HEB := Lib.hid hEb
              have HLb := Lib.hid ((Below.block hEb LB (Array.getElem?_eq_some_iff.1 HLK.out).1).trans HLK.out)
              clear hWb hn hEb hS k0 k1 hH
              refine wp_region_heldT (fun z => z.cell? ⟨LB, 0, none⟩ = some (.int .i64 mk) ∧ (z.cell? ⟨bb, 0, none⟩ = some (.int .i64 X.weeks) ∧ z.cell? ⟨bb, 1, none⟩ = some (.int .i64 X.price) ∧ z.cell? ⟨bb, 2, none⟩ = some (.int .i64 X.age) ∧ z.cell? ⟨bb, 3, none⟩ = some (.int .i64 X.step) ∧ z.cell? ⟨bb, 4, none⟩ = some (.slice p X.rough.length cp) ∧ z.cell? ⟨bb, 5, none⟩ = some (.slice q X.recs.length d)) ∧ z.cell? ⟨H, 0, none⟩ = some (.int .u64 nx) ∧ z.cell? ⟨H, 1, none⟩ = some (.slice q1 rx c1) ∧ z.cell? ⟨PB, 0, none⟩ = some (.int .i64 pr)) 6
                [(true, 0), (true, 1), (true, 2), (true, 3), (false, 4), (true, 5)] (by kernel_rfl) (by kernel_rfl) HS0.out ?_
              simp only [List.map_cons, List.map_nil, List.getElem?_cons_zero, List.getElem?_cons_succ]
              repeat (refine wpHL_take (v := ?_) (by rfl) ?_ (fun _ _ _ h => h) ?_; rotate_left 1; (intro z hz; (try dsimp only at hz); go_simp; (try with_reducible rfl)); simp only [Act.put, List.setIfInBounds_toArray, List.set_cons_zero, List.set_cons_succ])
              refine wpHL_step (fun K hK => ?_)
              go_simp
              refine (HALL.out _ (HEB.out.trans (by repeat (first | exact Ext.refl _ | refine Ext.drew ?_)))).mono ?_
              rintro e w6 ⟨rfl, hE6⟩
              have hE6b : Ext Wb w6 := (Ext.refl Wb).drew.trans hE6
              refine hK.out _ _ (HS2.out w6 hE6b) ?_
              clear hK K hE6
              try simp only [Act.put, List.setIfInBounds_toArray, List.set_cons_zero, List.set_cons_succ]
              repeat (refine wpHL_take (v := ?_) (by rfl) ?_ (fun _ _ _ h => h) ?_; rotate_left 1; (intro z hz; (try dsimp only at hz); go_simp; (try with_reducible rfl)); simp only [Act.put, List.setIfInBounds_toArray, List.set_cons_zero, List.set_cons_succ])
              refine wpHL_nil ?_
              simp only [List.drop_succ_cons, List.drop_zero]
              have hl6 := (Below.block hE6b LB (Array.getElem?_eq_some_iff.1 HLb.out).1).trans HLb.out
              have z0 : w6.cell? ⟨LB, 0, none⟩ = some (.int .i64 mk) := (cell_of_heap hl6 0).trans rfl
              have z1 := cell_frozen hl6 0
              have HL6 := Lib.hid hl6
              have HE6 := Lib.hid hE6b
              clear hl6 hE6b
              go_wp2
              go_roundw
              case rel =>
                refine ⟨k + 1, by omega, by go_num, ?_, ((HF.out.trans (HEB.out.fr _)).trans (HE6.out.fr _)).set rfl⟩
                rw [HSN.out]
                exact heap_set HL6.out (by first | rfl | (rw [hif]; rfl))
              case measure => simp [intOf]; omega
            · obtain rfl : k = L.length := by omega
              rw [List.take_length] at HLK
              have hmin : minTo X pr a0 L = minP X L pr := by
                unfold minP
                rw [HA0.out, show L.getD 0 ⟨0, []⟩ = L[0] from by simp [List.getD, hpos]]
              rw [hmin] at HLK
              have hsb := HSB.out wr hEz
              have hask : Asks ChV 67 #[] #[.pointer (some ⟨bb, 0, none⟩), .pointer (some ⟨PB, 0, none⟩), .pointer (some ⟨LB, 0, none⟩)] wr L (fun c => c.needles ≠ 0 ∧ allW X c pr = minP X L pr) := ⟨Try.call67, fun w' v c hw' hc hv => by
                have h1 := (HEW2.out.trans hEz).trans hw'
                have := worthFn03 X HX.out p q cp d bb PB LB pr (minP X L pr) hprb v c w' hv (HOKL.out c hc) (HR.out.ext h1) (HG.out.ext h1) ((Below.block (hEz.trans hw') bb (by have := (Array.getElem?_eq_some_iff.1 HBW.out).1; omega)).trans HBW.out) (hw'.cell hsb.2) (hw'.cell ((cell_of_heap HLK.out 0).trans rfl))
                simpa using this⟩
              have hcf := ContainsFuncCh (some ⟨b0', o0', none⟩) L lc 67 #[.pointer (some ⟨bb, 0, none⟩), .pointer (some ⟨PB, 0, none⟩), .pointer (some ⟨LB, 0, none⟩)] wr _ (by omega) (HCH2.out.ext hEz) hask
              have hpc2 := fun z (hz : Ext wr z) => (HSB.out z (hEz.trans hz)).2
              have HPC := Lib.hid hpc2
              have HEZ := Lib.hid hEz
              clear hsb hask hpc2 hmin hEz
              by_cases hpay : ∃ c ∈ L, c.needles ≠ 0 ∧ allW X c pr = minP X L pr
              · rw [bP_t hpay] at hcf
                have HCF := Lib.hid hcf
                have HPAY := Lib.hid ((paysB_iff X L pr).2 hpay)
                clear hcf hpay
                go_wp2_with (go_at_call 66; refine HCF.out.mono ?_; rintro e w7 ⟨rfl, hE7⟩; have hp7 := HPC.out w7 hE7)
                go_ret2
                refine RetE.fin ((HEW2.out.trans HEZ.out).trans hE7) ?_
                rw [HWV.out, worthTo_skip X L 1000 hn HNO.out, worthTo, if_pos HPAY.out]
                rfl
              · have hpf : paysB X L pr = false := by
                  cases h : paysB X L pr with
                  | false => rfl
                  | true => exact absurd ((paysB_iff X L pr).1 h) hpay
                rw [bP_f hpay] at hcf
                have HCF := Lib.hid hcf
                have HPAY := Lib.hid hpf
                clear hcf hpay hpf
                go_wp2_with (go_at_call 66; refine HCF.out.mono ?_; rintro e w7 ⟨rfl, hE7⟩; have hp7 := HPC.out w7 hE7)
                go_roundw
                case rel =>
                  have hE57 := (HER.out.trans HEZ.out).trans hE7
                  refine ⟨pr, w7.heap.size, by omega, rfl, heap_new _ _, hE57.size, fun m h1 h2 => ?_, Ext.alloc hE57 _⟩
                  by_cases e : m = pr
                  · rw [e]; exact HPAY.out
                  · exact HNO.out m (by omega) h2
                case measure =>
                  rw [ptrInt_eq (n := (pr : Int) - 1) ((cell_of_heap (heap_new _ _) 0).trans rfl), ptrInt_eq (n := (pr : Int)) ((cell_of_heap HPB.out 0).trans rfl)]
                  omega
end Go.Proofs.Ytkcilgjkdiopnaa
