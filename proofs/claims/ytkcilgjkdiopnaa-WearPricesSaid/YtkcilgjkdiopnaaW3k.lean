/- The walks of cost, all and whole. -/
import Derived.Test.YtkcilgjkdiopnaaW3j
namespace Go.Proofs.Ytkcilgjkdiopnaa
open Go.RowKit

set_option maxRecDepth 20000 in
set_option maxHeartbeats 1600000 in
theorem cost03 (v u : Value) (X : Wr) (c : Ch) (w : World) (hv : WrV w v X) (hX : ValidW X) (hu : ChV w u c) (hc : ChOK X c) :
    Calls Try.prog 95 #[v, u] w (RetE (.int .i64 (costTo X c c.records.length)) w) := by
  obtain ⟨p, cp, q, d, rfl, -, h2⟩ := hv
  obtain ⟨s, cs, rfl, h3⟩ := hu
  have h4 := hX.recs
  have hlen := hc.len
  have HX := Lib.hid hX
  have HC := Lib.hid hc
  have HL := Lib.hid hlen
  have hcl : c.records.length ≤ 4 := by omega
  clear hX hc hlen
  go_enter Try.func95, Try.ntmps95
  go_upto_region 1 with (fail)
  obtain ⟨W, hW⟩ : ∃ W, W = (w.alloc (.cells #[.int .i64 X.weeks, .int .i64 X.price, .int .i64 X.age, .int .i64 X.step, .slice p X.rough.length cp, .slice q X.recs.length d] 88)).alloc (.cells #[.int .u64 c.needles, .slice s c.records.length cs] 105) := ⟨_, rfl⟩
  have hn1 := heap_new1 w (.cells #[.int .i64 X.weeks, .int .i64 X.price, .int .i64 X.age, .int .i64 X.step, .slice p X.rough.length cp, .slice q X.recs.length d] 88) (.cells #[.int .u64 c.needles, .slice s c.records.length cs] 105)
  have hn2 := heap_new2 w (.cells #[.int .i64 X.weeks, .int .i64 X.price, .int .i64 X.age, .int .i64 X.step, .slice p X.rough.length cp, .slice q X.recs.length d] 88) (.cells #[.int .u64 c.needles, .slice s c.records.length cs] 105)
  have hE : Ext w W := by rw [hW]; exact Ext.alloc (Ext.alloc (Ext.refl w) _) _
  rw [← hW] at hn1 hn2 ⊢
  have q5 := ExtW.cell (v := .slice q X.recs.length d) (cell_of_heap hn1 5)
  have n1 := ExtW.cell (v := .slice s c.records.length cs) (cell_of_heap hn2 1)
  have k2 := h2.ext hE
  have k3 := h3.ext hE
  obtain ⟨x0, hx0⟩ := ExtW.of (Ext.refl W)
  clear hW hn1 hn2 h2 h3
  conv => arg 5; rw [hx0]
  clear hx0
  go_wp2
  go_loopw [5, 11] (fun sv i wr => ∃ k : Nat, k ≤ c.records.length ∧ i = .int .i64 k ∧ sv = .int .i64 (costTo X c k) ∧ ∃ x : ExtW W, wr = x.w) (fun _ i _ => c.records.length - (intOf i).toNat)
  case atStart => exact ⟨0, Nat.zero_le _, rfl, rfl, x0, rfl⟩
  case round =>
    clear x0
    obtain ⟨k, hk, rfl, rfl, x, rfl⟩ := hrel
    have hbd := costTo_bd HX.out c k
    by_cases hlt : k < c.records.length
    · obtain ⟨b, o, rfl, hcc⟩ := k3.at k hlt
      have rc := ExtW.cell hcc
      have hm64 := HC.out.recs k hlt
      have hkr : k < X.recs.length := by have := HL.out; omega
      obtain ⟨rb, ro, q', c', rfl, -, -, r3, -, -⟩ := k2 k hkr
      have hpr := rec_bd HX.out k
      rw [show X.recs[k].price = (recW X k).price from by rw [recW_eq hkr]] at r3
      have hsn : costTo X c (k + 1) = costTo X c k + popc (c.records.getD k 0) * (recW X k).price := rfl
      rw [show c.records.getD k 0 = c.records[k] from by simp [List.getD, hlt]] at hsn
      obtain ⟨m, hm⟩ : ∃ m, m = c.records[k] := ⟨_, rfl⟩
      rw [← hm] at rc hm64 hsn
      have hpl := popc_le m
      have HM := Lib.hid (fun y : ExtW W => ExtW.call (RetQ.e (many03 m y.w hm64)))
      obtain ⟨pn, hpn⟩ : ∃ pn, pn = popc m := ⟨_, rfl⟩
      rw [← hpn] at hpl hsn HM
      obtain ⟨pr, hprr⟩ : ∃ pr, pr = (recW X k).price := ⟨_, rfl⟩
      rw [← hprr] at r3 hpr hsn
      have r3' := ExtW.cell r3
      obtain ⟨t, ht⟩ : ∃ t, t = costTo X c k := ⟨_, rfl⟩
      rw [← ht] at hbd hsn
      have hm0 : (0 : Int) ≤ (pn : Int) * pr := Int.mul_nonneg (by omega) hpr.1
      have hm1 : (pn : Int) * pr ≤ 6 * 999 := Int.mul_le_mul (by omega) hpr.2.1 hpr.1 (by decide)
      have hw1 : IntKind.i64.wrap ((pn : Int) * pr) = (pn : Int) * pr := IntWalk.i64_in _ (by omega)
      have hw2 : IntKind.i64.wrap (t + (pn : Int) * pr) = t + (pn : Int) * pr := IntWalk.i64_in _ (by omega)
      have HSN := Lib.hid hsn
      conv => arg 4; rw [← ht]
      clear hcc hm hpn hprr ht r3 hsn hm0 hm1
      go_upto_region 5 with (fail)
      refine wp_region_extW (by kernel_rfl) (by kernel_rfl) ?_
      repeat (go_big_quiet_step ((go_at_call 74; exact HM.out _)))
      refine wpQuiet_nil ?_
      rintro _ ⟨x2, rfl⟩
      go_wp2
      go_roundw
      case rel => exact ⟨k + 1, by omega, by go_num, by rw [HSN.out], x2, rfl⟩
      case measure => simp [intOf]; omega
    · obtain rfl : k = c.records.length := by omega
      go_wp2
      go_ret
      exact RetE.fin (hE.trans x.h) rfl

set_option maxRecDepth 20000 in
set_option maxHeartbeats 1600000 in
theorem all03 (v u : Value) (X : Wr) (c : Ch) (price : Int) (w : World) (hv : WrV w v X) (hX : ValidW X) (hu : ChV w u c) (hc : ChOK X c) (hp : 0 ≤ price ∧ price ≤ 999) :
    Calls Try.prog 65 #[v, u, .int .i64 price] w (RetE (.int .i64 (allW X c price)) w) := by
  have hco := fun w' (h : Ext w w') => cost03 v u X c w' (WrV.mono _ _ _ _ h hv) hX (ChV.mono _ _ _ _ h hu) hc
  obtain ⟨p, cp, q, d, rfl, -, -⟩ := hv
  obtain ⟨s, cs, rfl, -⟩ := hu
  have hbd := costTo_bd hX c c.records.length
  have hcl : c.records.length ≤ 4 := by rw [hc.len]; exact hX.recs
  have hpl := popc_le c.needles
  have hml := hc.needles
  have HAW : Hid (allW X c price = costTo X c c.records.length + popc c.needles * price) := Lib.hid rfl
  obtain ⟨t, ht⟩ : ∃ t, t = costTo X c c.records.length := ⟨_, rfl⟩
  rw [← ht] at hco hbd HAW
  obtain ⟨nn, hnn⟩ : ∃ nn, nn = c.needles := ⟨_, rfl⟩
  rw [← hnn] at hpl hml HAW hco ⊢
  have hmy := fun w' => many03 nn w' hml
  obtain ⟨pn, hpn⟩ : ∃ pn, pn = popc nn := ⟨_, rfl⟩
  rw [← hpn] at hpl HAW
  simp only [← hpn] at hmy
  have hm0 : (0 : Int) ≤ (pn : Int) * price := Int.mul_nonneg (by omega) hp.1
  have hm1 : (pn : Int) * price ≤ 6 * 999 := Int.mul_le_mul (by omega) hp.2 hp.1 (by decide)
  have hw1 : IntKind.i64.wrap ((pn : Int) * price) = (pn : Int) * price := IntWalk.i64_in _ (by omega)
  have hw2 : IntKind.i64.wrap (t + (pn : Int) * price) = t + (pn : Int) * price := IntWalk.i64_in _ (by omega)
  have HCO := Lib.hid hco
  have HMY := Lib.hid hmy
  clear hco hX hc ht hnn hpn hm0 hm1 hmy hbd hcl
  go_enter Try.func65, Try.ntmps65
  go_upto_region 1 with (fail)
  obtain ⟨W, hW⟩ : ∃ W, W = (w.alloc (.cells #[.int .i64 X.weeks, .int .i64 X.price, .int .i64 X.age, .int .i64 X.step, .slice p X.rough.length cp, .slice q X.recs.length d] 88)).alloc (.cells #[.int .u64 nn, .slice s c.records.length cs] 105) := ⟨_, rfl⟩
  have hn1 := heap_new1 w (.cells #[.int .i64 X.weeks, .int .i64 X.price, .int .i64 X.age, .int .i64 X.step, .slice p X.rough.length cp, .slice q X.recs.length d] 88) (.cells #[.int .u64 nn, .slice s c.records.length cs] 105)
  have hn2 := heap_new2 w (.cells #[.int .i64 X.weeks, .int .i64 X.price, .int .i64 X.age, .int .i64 X.step, .slice p X.rough.length cp, .slice q X.recs.length d] 88) (.cells #[.int .u64 nn, .slice s c.records.length cs] 105)
  have hE : Ext w W := by rw [hW]; exact Ext.alloc (Ext.alloc (Ext.refl w) _) _
  rw [← hW] at hn1 hn2 ⊢
  have q0 := ExtW.cell (v := .int .i64 X.weeks) (cell_of_heap hn1 0)
  have q1 := ExtW.cell (v := .int .i64 X.price) (cell_of_heap hn1 1)
  have q2 := ExtW.cell (v := .int .i64 X.age) (cell_of_heap hn1 2)
  have q3 := ExtW.cell (v := .int .i64 X.step) (cell_of_heap hn1 3)
  have q4 := ExtW.cell (v := .slice p X.rough.length cp) (cell_of_heap hn1 4)
  have q5 := ExtW.cell (v := .slice q X.recs.length d) (cell_of_heap hn1 5)
  have n0 := ExtW.cell (v := .int .u64 nn) (cell_of_heap hn2 0)
  have n1 := ExtW.cell (v := .slice s c.records.length cs) (cell_of_heap hn2 1)
  have HC2 := Lib.hid (fun y : ExtW W => ExtW.call (HCO.out y.w (hE.trans y.h)))
  have HM2 := Lib.hid (fun y : ExtW W => ExtW.call (RetQ.e (HMY.out y.w)))
  obtain ⟨x0, hx0⟩ := ExtW.of (Ext.refl W)
  clear hW hn1 hn2 HCO HMY
  conv => arg 5; rw [hx0]
  clear hx0
  refine wp_region_extW (by kernel_rfl) (by kernel_rfl) ?_
  repeat (go_big_quiet_step ((first | (go_at_call 95; exact HC2.out _) | (go_at_call 74; exact HM2.out _))))
  refine wpQuiet_nil ?_
  rintro _ ⟨x2, rfl⟩
  go_wp2
  go_ret
  exact RetE.fin (hE.trans x2.h) (by rw [HAW.out]; rfl)

set_option maxRecDepth 20000 in
set_option maxHeartbeats 1600000 in
theorem whole03 (v u : Value) (X : Wr) (c : Ch) (w : World) (hv : WrV w v X) (hX : ValidW X) (hu : ChV w u c) (hc : ChOK X c) :
    Calls Try.prog 62 #[v, u] w (RetE (.int .i64 (allW X c X.price)) w) := by
  have hal := fun w' (h : Ext w w') => all03 v u X c X.price w' (WrV.mono _ _ _ _ h hv) hX (ChV.mono _ _ _ _ h hu) hc hX.price
  obtain ⟨p, cp, q, d, rfl, -, -⟩ := hv
  obtain ⟨s, cs, rfl, -⟩ := hu
  have HAL := Lib.hid hal
  clear hal hX hc
  go_enter Try.func62, Try.ntmps62
  go_upto_region 1 with (fail)
  obtain ⟨W, hW⟩ : ∃ W, W = (w.alloc (.cells #[.int .i64 X.weeks, .int .i64 X.price, .int .i64 X.age, .int .i64 X.step, .slice p X.rough.length cp, .slice q X.recs.length d] 88)).alloc (.cells #[.int .u64 c.needles, .slice s c.records.length cs] 105) := ⟨_, rfl⟩
  have hn1 := heap_new1 w (.cells #[.int .i64 X.weeks, .int .i64 X.price, .int .i64 X.age, .int .i64 X.step, .slice p X.rough.length cp, .slice q X.recs.length d] 88) (.cells #[.int .u64 c.needles, .slice s c.records.length cs] 105)
  have hn2 := heap_new2 w (.cells #[.int .i64 X.weeks, .int .i64 X.price, .int .i64 X.age, .int .i64 X.step, .slice p X.rough.length cp, .slice q X.recs.length d] 88) (.cells #[.int .u64 c.needles, .slice s c.records.length cs] 105)
  have hE : Ext w W := by rw [hW]; exact Ext.alloc (Ext.alloc (Ext.refl w) _) _
  rw [← hW] at hn1 hn2 ⊢
  have q0 := ExtW.cell (v := .int .i64 X.weeks) (cell_of_heap hn1 0)
  have q1 := ExtW.cell (v := .int .i64 X.price) (cell_of_heap hn1 1)
  have q2 := ExtW.cell (v := .int .i64 X.age) (cell_of_heap hn1 2)
  have q3 := ExtW.cell (v := .int .i64 X.step) (cell_of_heap hn1 3)
  have q4 := ExtW.cell (v := .slice p X.rough.length cp) (cell_of_heap hn1 4)
  have q5 := ExtW.cell (v := .slice q X.recs.length d) (cell_of_heap hn1 5)
  have n0 := ExtW.cell (v := .int .u64 c.needles) (cell_of_heap hn2 0)
  have n1 := ExtW.cell (v := .slice s c.records.length cs) (cell_of_heap hn2 1)
  have HC2 := Lib.hid (fun y : ExtW W => ExtW.call (HAL.out y.w (hE.trans y.h)))
  obtain ⟨x0, hx0⟩ := ExtW.of (Ext.refl W)
  clear hW hn1 hn2 HAL
  conv => arg 5; rw [hx0]
  clear hx0
  go_wp2_with (go_at_call 65; refine (HC2.out _).mono ?_; rintro e w' ⟨rfl, x2, rfl⟩)
  go_ret
  exact RetE.fin (hE.trans x2.h) rfl
end Go.Proofs.Ytkcilgjkdiopnaa
