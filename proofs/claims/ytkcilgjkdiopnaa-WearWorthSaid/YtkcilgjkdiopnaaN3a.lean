/- The walks of replaced, Needles and Records, of a valid box. -/
import Derived.Test.YtkcilgjkdiopnaaVE
namespace Go.Proofs.Ytkcilgjkdiopnaa
open Go.RowKit

/-- how often records are replaced -/
def replTo (c : Ch) : Nat → Int
  | 0 => 0
  | i + 1 => replTo c i + popc (c.records.getD i 0)
def replW (c : Ch) : Int := replTo c c.records.length
theorem replTo_bd (c : Ch) : ∀ n : Nat, 0 ≤ replTo c n ∧ replTo c n ≤ 6 * n
  | 0 => ⟨Int.le_refl _, by simp [replTo]⟩
  | n + 1 => by
    have := replTo_bd c n
    have := popc_le (c.records.getD n 0)
    simp only [replTo]
    omega
def needV (X : Wr) : Value := match leastL (fun c => (popc c.needles : Int)) (choicesW X X.weeks.toNat) with
  | some c => .tuple #[.int .i64 (popc c.needles), .int .i64 0]
  | none => .tuple #[.int .i64 0, .int .i64 3]
def recsV (X : Wr) : Value := match leastL replW (choicesW X X.weeks.toNat) with
  | some c => .tuple #[.int .i64 (replW c), .int .i64 0]
  | none => .tuple #[.int .i64 0, .int .i64 3]

set_option maxRecDepth 20000 in
set_option maxHeartbeats 1600000 in
theorem replaced03 (u : Value) (c : Ch) (w : World) (hu : ChV w u c) (hc : c.records.length ≤ 4) (hcr : ∀ i (h : i < c.records.length), c.records[i] < 64) :
    Calls Try.prog 76 #[u] w (RetE (.int .i64 (replW c)) w) := by
  obtain ⟨s, cs, rfl, h3⟩ := hu
  have HCR := Lib.hid hcr
  clear hcr
  go_enter Try.func76, Try.ntmps76
  go_upto_region 1 with (fail)
  obtain ⟨W, hW⟩ : ∃ W, W = w.alloc (.cells #[.int .u64 c.needles, .slice s c.records.length cs] 105) := ⟨_, rfl⟩
  have hn2 := heap_new w (.cells #[.int .u64 c.needles, .slice s c.records.length cs] 105)
  have hE : Ext w W := by rw [hW]; exact Ext.alloc (Ext.refl w) _
  rw [← hW] at hn2 ⊢
  have n1 := ExtW.cell (v := .slice s c.records.length cs) (cell_of_heap hn2 1)
  have k3 := h3.ext hE
  obtain ⟨x0, hx0⟩ := ExtW.of (Ext.refl W)
  clear hW hn2 h3
  conv => arg 5; rw [hx0]
  clear hx0
  go_wp2
  go_loopw [3, 9] (fun sv i wr => ∃ k : Nat, k ≤ c.records.length ∧ i = .int .i64 k ∧ sv = .int .i64 (replTo c k) ∧ ∃ x : ExtW W, wr = x.w) (fun _ i _ => c.records.length - (intOf i).toNat)
  case atStart => exact ⟨0, Nat.zero_le _, rfl, rfl, x0, rfl⟩
  case round =>
    clear x0
    obtain ⟨k, hk, rfl, rfl, x, rfl⟩ := hrel
    have hbd := replTo_bd c k
    by_cases hlt : k < c.records.length
    · obtain ⟨b, o, rfl, hcc⟩ := k3.at k hlt
      have rc := ExtW.cell hcc
      have hm64 := HCR.out k hlt
      have hsn : replTo c (k + 1) = replTo c k + popc (c.records.getD k 0) := rfl
      rw [show c.records.getD k 0 = c.records[k] from by simp [List.getD, hlt]] at hsn
      obtain ⟨m, hm⟩ : ∃ m, m = c.records[k] := ⟨_, rfl⟩
      rw [← hm] at rc hm64 hsn
      have hpl := popc_le m
      have HM := Lib.hid (fun y : ExtW W => ExtW.call (RetQ.e (many03 m y.w hm64)))
      obtain ⟨pn, hpn⟩ : ∃ pn, pn = popc m := ⟨_, rfl⟩
      rw [← hpn] at hpl hsn HM
      obtain ⟨t, ht⟩ : ∃ t, t = replTo c k := ⟨_, rfl⟩
      rw [← ht] at hbd hsn
      have hw2 : IntKind.i64.wrap (t + (pn : Int)) = t + (pn : Int) := IntWalk.i64_in _ (by omega)
      have HSN := Lib.hid hsn
      conv => arg 4; rw [← ht]
      clear hcc hm hpn ht hsn
      go_wp2_with (go_at_call 74; refine (HM.out _).mono ?_; rintro e w' ⟨rfl, x2, rfl⟩)
      go_roundw
      case rel => exact ⟨k + 1, by omega, by go_num, by rw [HSN.out], x2, rfl⟩
      case measure => simp [intOf]; omega
    · obtain rfl : k = c.records.length := by omega
      go_wp2
      go_ret
      exact RetE.fin (hE.trans x.h) rfl

theorem says_needles (X : Wr) : Says2 73 X (fun c => (popc c.needles : Int)) := by
  refine ⟨Try.call73, fun w v u c hv hu hc => ?_⟩
  obtain ⟨p, cp, q, d, rfl, -, -⟩ := hv
  obtain ⟨s, cs, rfl, -⟩ := hu
  have h64 := hc.needles
  have HM := Lib.hid (fun y => RetQ.e (many03 c.needles y h64))
  clear hc
  go_enter Try.func73, Try.ntmps73
  go_upto_region 1 with (fail)
  obtain ⟨W, hW⟩ : ∃ W, W = (w.alloc (.cells #[.int .i64 X.weeks, .int .i64 X.price, .int .i64 X.age, .int .i64 X.step, .slice p X.rough.length cp, .slice q X.recs.length d] 88)).alloc (.cells #[.int .u64 c.needles, .slice s c.records.length cs] 105) := ⟨_, rfl⟩
  have hn2 := heap_new2 w (.cells #[.int .i64 X.weeks, .int .i64 X.price, .int .i64 X.age, .int .i64 X.step, .slice p X.rough.length cp, .slice q X.recs.length d] 88) (.cells #[.int .u64 c.needles, .slice s c.records.length cs] 105)
  have hE : Ext w W := by rw [hW]; exact Ext.alloc (Ext.alloc (Ext.refl w) _) _
  rw [← hW] at hn2 ⊢
  have n0 : W.cell? ⟨w.heap.size + 1, 0, none⟩ = some (.int .u64 c.needles) := (cell_of_heap hn2 0).trans rfl
  clear hW hn2
  go_wp2_with (go_at_call 74; refine (HM.out _).mono ?_; rintro e w' ⟨rfl, hE2⟩)
  go_ret
  exact RetE.fin (hE.trans hE2) rfl

theorem says_records (X : Wr) (hX : X.recs.length ≤ 4) : Says2 75 X replW := by
  refine ⟨Try.call75, fun w v u c hv hu hc => ?_⟩
  obtain ⟨p, cp, q, d, rfl, -, -⟩ := hv
  have hu' := hu
  obtain ⟨s, cs, rfl, -⟩ := hu
  have HU := Lib.hid hu'
  have HC := Lib.hid hc
  clear hc hu'
  go_enter Try.func75, Try.ntmps75
  go_upto_region 1 with (fail)
  obtain ⟨W, hW⟩ : ∃ W, W = (w.alloc (.cells #[.int .i64 X.weeks, .int .i64 X.price, .int .i64 X.age, .int .i64 X.step, .slice p X.rough.length cp, .slice q X.recs.length d] 88)).alloc (.cells #[.int .u64 c.needles, .slice s c.records.length cs] 105) := ⟨_, rfl⟩
  have hn2 := heap_new2 w (.cells #[.int .i64 X.weeks, .int .i64 X.price, .int .i64 X.age, .int .i64 X.step, .slice p X.rough.length cp, .slice q X.recs.length d] 88) (.cells #[.int .u64 c.needles, .slice s c.records.length cs] 105)
  have hE : Ext w W := by rw [hW]; exact Ext.alloc (Ext.alloc (Ext.refl w) _) _
  rw [← hW] at hn2 ⊢
  have n0 : W.cell? ⟨w.heap.size + 1, 0, none⟩ = some (.int .u64 c.needles) := (cell_of_heap hn2 0).trans rfl
  have n1 : W.cell? ⟨w.heap.size + 1, 1, none⟩ = some (.slice s c.records.length cs) := (cell_of_heap hn2 1).trans rfl
  have HM := Lib.hid (replaced03 _ c W (ChV.mono _ _ _ _ hE HU.out) (by have := HC.out.len; omega) HC.out.recs)
  clear hW hn2
  go_wp2_with (go_at_call 76; refine HM.out.mono ?_; rintro e w' ⟨rfl, hE2⟩)
  go_ret
  exact RetE.fin (hE.trans hE2) rfl

set_option maxRecDepth 20000 in
set_option maxHeartbeats 3200000 in
theorem Needles03 (v : Value) (X : Wr) (w : World) (hv : WrV w v X) (hX : ValidW X) (hM : ModestW X) : Calls Try.prog 40 #[v] w (RetE (needV X) w) := by
  obtain ⟨p, cp, q, d, rfl, hG, hR⟩ := hv
  have hse := fun w' (h : Ext w w') => seek03 X hX p q cp d 73 _ (says_needles X) w' hM (hR.ext h) (hG.ext h)
  have HSE := Lib.hid hse
  have HX := Lib.hid hX
  clear hse hX hR hG hM
  go_enter Try.func40, Try.ntmps40
  go_upto_region 1 with (fail)
  obtain ⟨W, hW⟩ : ∃ W, W = w.alloc (.cells #[.int .i64 X.weeks, .int .i64 X.price, .int .i64 X.age, .int .i64 X.step, .slice p X.rough.length cp, .slice q X.recs.length d] 25) := ⟨_, rfl⟩
  have hn := heap_new w (.cells #[.int .i64 X.weeks, .int .i64 X.price, .int .i64 X.age, .int .i64 X.step, .slice p X.rough.length cp, .slice q X.recs.length d] 25)
  have hE : Ext w W := by rw [hW]; exact Ext.alloc (Ext.refl w) _
  rw [← hW] at hn ⊢
  have q0 := cell_of_heap hn 0
  have q1 := cell_of_heap hn 1
  have q2 := cell_of_heap hn 2
  have q3 := cell_of_heap hn 3
  have q4 := cell_of_heap hn 4
  have q5 := cell_of_heap hn 5
  simp at q0 q1 q2 q3 q4 q5
  have HS := Lib.hid (HSE.out W hE)
  have HE := Lib.hid hE
  clear hW hn hE HSE
  cases hb : leastL (fun c => (popc c.needles : Int)) (choicesW X X.weeks.toNat) with
  | none =>
    rw [hb] at HS
    have HB := Lib.hid hb
    have HM := Lib.hid (fun y => RetQ.e (many03 0 y (by decide)))
    clear hb
    go_wp2_with (first | (go_at_call 61; refine HS.out.mono ?_; rintro e W2 ⟨hE2, rfl⟩; unfold zeroCh) | (go_at_call 74; refine (HM.out _).mono ?_; rintro e w' ⟨rfl, hE3⟩))
    go_ret2
    refine RetE.fin ?_ (by unfold needV; rw [HB.out]; rfl)
    refine (HE.out.trans hE2).trans (Ext.trans ?_ hE3)
    repeat (with_reducible (first | refine Ext.drew ?_ | refine Ext.alloc ?_ _ | exact Ext.refl _))
  | some c =>
    have hok : ChOK X c := leastL_ok _ (fun c hc => choices_ok HX.out (by have := HX.out.weeks; omega) hc) c hb
    have h64 := hok.needles
    rw [hb] at HS
    have HB := Lib.hid hb
    have HM := Lib.hid (fun y => RetQ.e (many03 c.needles y h64))
    clear hb hok
    go_wp2_with (first | (go_at_call 61; refine HS.out.mono ?_; rintro e W2 ⟨hE2, u, rfl, ⟨mp, mc, rfl, hma, -⟩⟩) | (go_at_call 74; refine (HM.out _).mono ?_; rintro e w' ⟨rfl, hE3⟩))
    go_ret2
    refine RetE.fin ?_ (by unfold needV; rw [HB.out]; rfl)
    refine (HE.out.trans hE2).trans (Ext.trans ?_ hE3)
    repeat (with_reducible (first | refine Ext.drew ?_ | refine Ext.alloc ?_ _ | exact Ext.refl _))

set_option maxRecDepth 20000 in
set_option maxHeartbeats 3200000 in
theorem Records03 (v : Value) (X : Wr) (w : World) (hv : WrV w v X) (hX : ValidW X) (hM : ModestW X) : Calls Try.prog 41 #[v] w (RetE (recsV X) w) := by
  obtain ⟨p, cp, q, d, rfl, hG, hR⟩ := hv
  have hse := fun w' (h : Ext w w') => seek03 X hX p q cp d 75 _ (says_records X hX.recs) w' hM (hR.ext h) (hG.ext h)
  have HSE := Lib.hid hse
  have HX := Lib.hid hX
  clear hse hX hR hG hM
  go_enter Try.func41, Try.ntmps41
  go_upto_region 1 with (fail)
  obtain ⟨W, hW⟩ : ∃ W, W = w.alloc (.cells #[.int .i64 X.weeks, .int .i64 X.price, .int .i64 X.age, .int .i64 X.step, .slice p X.rough.length cp, .slice q X.recs.length d] 25) := ⟨_, rfl⟩
  have hn := heap_new w (.cells #[.int .i64 X.weeks, .int .i64 X.price, .int .i64 X.age, .int .i64 X.step, .slice p X.rough.length cp, .slice q X.recs.length d] 25)
  have hE : Ext w W := by rw [hW]; exact Ext.alloc (Ext.refl w) _
  rw [← hW] at hn ⊢
  have q0 := cell_of_heap hn 0
  have q1 := cell_of_heap hn 1
  have q2 := cell_of_heap hn 2
  have q3 := cell_of_heap hn 3
  have q4 := cell_of_heap hn 4
  have q5 := cell_of_heap hn 5
  simp at q0 q1 q2 q3 q4 q5
  have HS := Lib.hid (HSE.out W hE)
  have HE := Lib.hid hE
  clear hW hn hE HSE
  cases hb : leastL replW (choicesW X X.weeks.toNat) with
  | none =>
    rw [hb] at HS
    have HB := Lib.hid hb
    have HM := Lib.hid (fun y => replaced03 (.agg #[.int .u64 0, .slice none 0 0]) ⟨0, []⟩ y ⟨none, 0, rfl, fun i hi => absurd hi (by simp)⟩ (by simp) (fun i hi => absurd hi (by simp)))
    clear hb
    go_wp2_with (first | (go_at_call 61; refine HS.out.mono ?_; rintro e W2 ⟨hE2, rfl⟩; unfold zeroCh) | (go_at_call 76; refine (HM.out _).mono ?_; rintro e w' ⟨rfl, hE3⟩))
    go_ret2
    refine RetE.fin ?_ (by unfold recsV; rw [HB.out]; rfl)
    refine (HE.out.trans hE2).trans (Ext.trans ?_ hE3)
    repeat (with_reducible (first | refine Ext.drew ?_ | refine Ext.alloc ?_ _ | exact Ext.refl _))
  | some c =>
    have hok : ChOK X c := leastL_ok _ (fun c hc => choices_ok HX.out (by have := HX.out.weeks; omega) hc) c hb
    rw [hb] at HS
    have HB := Lib.hid hb
    have HOK := Lib.hid hok
    have HX4 := Lib.hid HX.out.recs
    clear hb hok
    go_upto_region 2 with (go_at_call 61; refine HS.out.mono ?_; rintro e W2 ⟨hE2, u, rfl, ⟨mp, mc, rfl, hma, -⟩⟩)
    obtain ⟨W3, hW3⟩ : ∃ W3, W3 = (W2.alloc (bxO X p cp q d)).alloc (.cells #[.int .u64 c.needles, .slice mp c.records.length mc] 105) := ⟨_, rfl⟩
    have g1 := heap_new2 W2 (bxO X p cp q d) (.cells #[.int .u64 c.needles, .slice mp c.records.length mc] 105)
    rw [← hW3] at g1
    have hE3 : Ext W2 W3 := by rw [hW3]; exact Ext.alloc (Ext.alloc (Ext.refl _) _) _
    unfold bxO at hW3
    rw [← hW3]
    have e0 : W3.cell? ⟨W2.heap.size + 1, 0, none⟩ = some (.int .u64 c.needles) := (cell_of_heap g1 0).trans rfl
    have e1 : W3.cell? ⟨W2.heap.size + 1, 1, none⟩ = some (.slice mp c.records.length mc) := (cell_of_heap g1 1).trans rfl
    have HM := Lib.hid (replaced03 (.agg #[.int .u64 c.needles, .slice mp c.records.length mc]) c W3 ⟨_, _, rfl, hma.ext hE3⟩ (by have := HOK.out.len; have := HX4.out; omega) HOK.out.recs)
    have HEW := Lib.hid ((HE.out.trans hE2).trans hE3)
    clear hW3 g1 hE3 hE2 hma
    go_wp2_with (go_at_call 76; refine HM.out.mono ?_; rintro e w' ⟨rfl, hE4⟩)
    go_ret2
    exact RetE.fin (HEW.out.trans hE4) (by unfold recsV; rw [HB.out]; rfl)
end Go.Proofs.Ytkcilgjkdiopnaa
