/- The walk of WearPays. -/
import Derived.Test.YtkcilgjkdiopnaaPa3
import Derived.Test.YtkcilgjkdiopnaaPr3b
namespace Go.Proofs.Ytkcilgjkdiopnaa
open Go.RowKit

set_option maxRecDepth 20000 in
set_option maxHeartbeats 8000000 in
theorem WearPays03 (v : Value) (X : Wr) (price : Int) (w : World) (hv : WrV w v X) (hM : BigW X) :
    Calls Try.prog 10 #[v, .int .i64 price] w (RetE (.bool true) w) := by
  have HV := Lib.hid hv
  have HB := Lib.hid hM
  obtain ⟨p, c, q, d, rfl, h1, h2⟩ := hv
  clear hM h1 h2
  go_enter Try.func10, Try.ntmps10
  go_upto_region 1 with (fail)
  have hg0 := heap_new w (.cells (wrCells X p c q d) 25)
  unfold wrCells at hg0
  obtain ⟨W, hW⟩ : ∃ W, W = w.alloc (.cells #[.int .i64 X.weeks, .int .i64 X.price, .int .i64 X.age, .int .i64 X.step, .slice p X.rough.length c, .slice q X.recs.length d] 25) := ⟨_, rfl⟩
  have hE : Ext w W := by rw [hW]; exact Ext.alloc (Ext.refl w) _
  rw [← hW] at hg0 ⊢
  have q0 := ExtW.cell (v := .int .i64 X.weeks) (cell_of_heap hg0 0)
  have q1 := ExtW.cell (v := .int .i64 X.price) (cell_of_heap hg0 1)
  have q2 := ExtW.cell (v := .int .i64 X.age) (cell_of_heap hg0 2)
  have q3 := ExtW.cell (v := .int .i64 X.step) (cell_of_heap hg0 3)
  have q4 := ExtW.cell (v := .slice p X.rough.length c) (cell_of_heap hg0 4)
  have q5 := ExtW.cell (v := .slice q X.recs.length d) (cell_of_heap hg0 5)
  have HWK := Lib.hid (fun x : ExtW W => ExtW.call (works03 x.w))
  have HR := fun x : ExtW W => ready03 _ X x.w (WrV.mono _ _ _ _ (hE.trans x.h) HV.out) HB.out
  obtain ⟨x0, hx0⟩ := ExtW.of (Ext.refl W)
  clear hW hg0
  conv => arg 5; rw [hx0]
  clear hx0
  by_cases hR : ReadyW X
  case neg =>
    have HR2 := Lib.hid (fun x : ExtW W => ExtW.call (RetE.bf hR (HR x)))
    clear HR hR
    go_wp2_with (first | (go_at_call 32; refine (HR2.out _).mono ?_; rintro e w' ⟨rfl, x1, rfl⟩) | (go_at_call 16; refine (HWK.out _).mono ?_; rintro e w' ⟨rfl, x2, rfl⟩))
    go_ret
    exact RetE.fin (hE.trans x2.h) rfl
  have HR2 := Lib.hid (fun x : ExtW W => ExtW.call (RetE.bt hR (HR x)))
  have HRD := Lib.hid hR
  clear HR hR
  by_cases g1 : price < 0
  · go_wp2_with (first | (go_at_call 32; refine (HR2.out _).mono ?_; rintro e w' ⟨rfl, x1, rfl⟩) | (go_at_call 16; refine (HWK.out _).mono ?_; rintro e w' ⟨rfl, x2, rfl⟩))
    go_ret
    exact RetE.fin (hE.trans x2.h) rfl
  by_cases g2 : 999 < price
  · go_wp2_with (first | (go_at_call 32; refine (HR2.out _).mono ?_; rintro e w' ⟨rfl, x1, rfl⟩) | (go_at_call 16; refine (HWK.out _).mono ?_; rintro e w' ⟨rfl, x2, rfl⟩))
    go_ret
    exact RetE.fin (hE.trans x2.h) rfl
  obtain ⟨n, e0, hwv, he, hn0, hn9, hcase⟩ := pays_law HRD.out.1 (p := price) ⟨by omega, by omega⟩
  have HWO := Lib.hid (fun x : ExtW W => ExtW.call (Worth03 _ X x.w (WrV.mono _ _ _ _ (hE.trans x.h) HV.out) HRD.out.1 (modest_valid HRD.out.1)))
  rw [hwv] at HWO
  have HCP := Lib.hid (fun x : ExtW W => Copy03s _ X x.w (WrV.mono _ _ _ _ (hE.trans x.h) HV.out) HRD.out.1)
  have HKE := Lib.hid (fun y => isKnown03 e0 he y)
  have HK0 := Lib.hid (fun y => isKnown03 0 (Or.inl rfl) y)
  have HK3 := Lib.hid (fun y => isKnown03 3 (Or.inr rfl) y)
  have HEE := Lib.hid he
  have HCASE := Lib.hid hcase
  have hi1 : ¬n < 0 := by omega
  have hi2 : ¬999 < n := by omega
  clear hwv he hcase hn0 hn9
  go_upto_region 5 with (first
    | (go_at_call 32; refine (HR2.out _).mono ?_; rintro e w' ⟨rfl, x1, rfl⟩)
    | (go_at_call 28; refine (HWO.out _).mono ?_; rintro e w' ⟨rfl, x2, rfl⟩)
    | (go_at_call 17; refine (HCP.out _).mono ?_; rintro e W4 ⟨p4, c4, q4', d4, rfl, hE4, ho⟩))
  generalize hW5 : World.alloc _ _ = W5
  have hb5 : W5.heap[W4.heap.size]? = some (.cells #[.int .i64 X.weeks, .int .i64 X.price, .int .i64 X.age, .int .i64 X.step, .slice p4 X.rough.length c4, .slice q4' X.recs.length d4] 25) := by rw [← hW5]; exact heap_new _ _
  have hE5 : Ext W4 W5 := by rw [← hW5]; exact Ext.alloc (Ext.refl _) _
  obtain ⟨po, co, qo, dd, hb, hfr⟩ := one_mk (E := fun i => i = W4.heap.size) ho (hE5.fr _) rfl hb5 (fun i _ h2 e => by have e2 : i = W4.heap.size := e; omega)
  obtain ⟨bo, hbo⟩ : ∃ bo, bo = W4.heap.size := ⟨_, rfl⟩
  have hbw : w.heap.size ≤ bo := by rw [hbo]; exact (hE.trans (x2.h.trans hE4)).size
  have hEw5 := (hE.trans x2.h).trans (hE4.trans hE5)
  rw [← hbo] at hb hfr ⊢
  unfold wrCells at hb
  rw [← hbo] at hb5
  have heq : po = p4 ∧ co = c4 ∧ qo = q4' ∧ dd = d4 := by
    rw [hb5] at hb
    simp only [Option.some.injEq, Obj.cells.injEq, Array.mk.injEq, List.cons.injEq, Value.slice.injEq] at hb
    obtain ⟨⟨-, -, -, -, ⟨h1, -, h2⟩, ⟨h3, -, h4⟩, -⟩, -⟩ := hb
    exact ⟨h1.symm, h2.symm, h3.symm, h4.symm⟩
  obtain ⟨rfl, rfl, rfl, rfl⟩ := heq
  have b1 : W5.cell? ⟨bo, 1, none⟩ = some (.int .i64 X.price) := (cell_of_heap hb 1).trans rfl
  have f1 : W5.frozen? ⟨bo, 1, none⟩ = false := cell_frozen hb 1
  have HB5 := Lib.hid hb
  have HFR := Lib.hid hfr
  have HEW5 := Lib.hid hEw5
  clear hW5 hb5 hE5 hb hfr hbo hEw5 ho hE4 hE q0 q1 q2 q3 q4 q5 HWO HCP HR2 HWK
  go_upto_region 6 with (fail)
  generalize hW6 : World.setCell _ _ _ = W6
  have hF6 : Fr (fun i => i = bo) W5 W6 := by rw [← hW6]; exact (Fr.refl _ _).set rfl
  have hb6 : W6.heap[bo]? = some (.cells #[.int .i64 X.weeks, .int .i64 price, .int .i64 X.age, .int .i64 X.step, .slice po X.rough.length co, .slice qo X.recs.length dd] 25) := by rw [← hW6]; exact heap_set HB5.out rfl
  have hv6 : WrV W6 (.agg #[.int .i64 X.weeks, .int .i64 price, .int .i64 X.age, .int .i64 X.step, .slice po X.rough.length co, .slice qo X.recs.length dd]) (priceX X price) := ⟨po, co, qo, dd, rfl, (HFR.out _ hF6).1, (HFR.out _ hF6).2⟩
  have hE6 : Ext w W6 := Fr.ext HEW5.out hF6 (fun i hi => by have e : i = bo := hi; omega)
  have q0 : W6.cell? ⟨bo, 0, none⟩ = some (.int .i64 X.weeks) := (cell_of_heap hb6 0).trans rfl
  have q1 : W6.cell? ⟨bo, 1, none⟩ = some (.int .i64 price) := (cell_of_heap hb6 1).trans rfl
  have q2 : W6.cell? ⟨bo, 2, none⟩ = some (.int .i64 X.age) := (cell_of_heap hb6 2).trans rfl
  have q3 : W6.cell? ⟨bo, 3, none⟩ = some (.int .i64 X.step) := (cell_of_heap hb6 3).trans rfl
  have q4 : W6.cell? ⟨bo, 4, none⟩ = some (.slice po X.rough.length co) := (cell_of_heap hb6 4).trans rfl
  have q5 : W6.cell? ⟨bo, 5, none⟩ = some (.slice qo X.recs.length dd) := (cell_of_heap hb6 5).trans rfl
  have hvp : ValidW (priceX X price) := price_valid HRD.out.1 ⟨by omega, by omega⟩
  have HPL := fun x : ExtW W6 => WrV.mono _ _ _ _ x.h hv6
  have HVP := Lib.hid hvp
  have HE6 := Lib.hid hE6
  have HWK := Lib.hid (fun x : ExtW W6 => ExtW.call (works03 x.w))
  have HFN := Lib.hid (fun x : ExtW W6 => ExtW.call (RetE.bf (p := FarP []) (by simp [FarP]) (farPlan03 none [] 0 x.w (fun i hi => absurd hi (by simp)) ⟨by simp, by simp⟩)))
  obtain ⟨x0, hx0⟩ := ExtW.of (Ext.refl W6)
  have q0 := ExtW.cell q0
  have q1 := ExtW.cell q1
  have q2 := ExtW.cell q2
  have q3 := ExtW.cell q3
  have q4 := ExtW.cell q4
  have q5 := ExtW.cell q5
  have HKE := Lib.hid (fun x : ExtW W6 => ExtW.call (HKE.out x.w))
  have HK0 := Lib.hid (fun x : ExtW W6 => ExtW.call (HK0.out x.w))
  have HK3 := Lib.hid (fun x : ExtW W6 => ExtW.call (HK3.out x.w))
  clear hW6 hF6 hb6 hv6 hE6 hvp b1 f1 HB5 HFR HEW5
  conv => arg 5; rw [hx0]
  clear hx0
  rcases HCASE.out with ⟨hbn, h3⟩ | ⟨ch, hbc, hok, hl3, hl0⟩
  · subst h3
    have HPL := Lib.hid (fun x : ExtW W6 => ExtW.call (Plan03n _ (priceX X price) x.w (HPL x) HVP.out hbn))
    clear hbn HCASE HEE HKE
    go_wp2_with (first
      | (go_at_call 42; refine (HPL.out _).mono ?_; rintro e w' ⟨rfl, y7, rfl⟩)
      | (go_at_call 37; refine (HK3.out _).mono ?_; rintro e w' ⟨rfl, y8, rfl⟩)
      | (go_at_call 15; refine (HFN.out _).mono ?_; rintro e w' ⟨rfl, y9, rfl⟩)
      | (go_at_call 16; refine (HWK.out _).mono ?_; rintro e w' ⟨rfl, z9, rfl⟩))
    go_ret
    exact RetE.fin (HE6.out.trans z9.h) rfl
  · have HPL := fun x : ExtW W6 => Plan03s _ (priceX X price) x.w (HPL x) HVP.out hbc
    obtain ⟨l, hl⟩ : ∃ l, l = planOf (priceX X price) ch := ⟨_, rfl⟩
    have hpo : PlanOK (priceX X price) l := by rw [hl]; exact planOf_ok HVP.out ch
    have hmd := modestP HVP.out hpo
    have hcn : cntN l l.length = popc ch.needles := by rw [hl]; exact cntN_planOf HVP.out (bestW_mem hbc)
    have hpc : 0 ≤ cntN l l.length := by rw [hcn]; omega
    rw [← hl] at HPL
    have HPL := Lib.hid HPL
    have hl3 : e0 = 3 → cntN l l.length = 0 := fun h => by rw [hcn, hl3 h]; rfl
    have hl0 : e0 = 0 → (n ≤ price ∨ 0 < cntN l l.length) ∧ (price ≤ n ∨ cntN l l.length = 0) := fun h => by rw [hcn]; have := hl0 h; omega
    have hnf : ¬FarP l := by
      rintro (h | ⟨x, hx, h⟩)
      · omega
      · have := hmd.2 x hx; omega
    have hbp : BigP l := ⟨by omega, fun x hx => by have := hmd.2 x hx; omega⟩
    have hl6 := hmd.1
    have HPO := Lib.hid hpo
    have HNF := Lib.hid hnf
    have HBP := Lib.hid hbp
    have HL3 := Lib.hid hl3
    have HL0 := Lib.hid hl0
    clear hl hpo hmd hcn hbc hok hl3 hl0 hnf hbp HCASE HFN HK3
    go_upto_region 7 with (go_at_call 42; refine (HPL.out _).mono ?_; rintro e W7 ⟨hE7, G, cap, rfl, hwk⟩)
    have HCO := Lib.hid (fun x : ExtW W7 => ExtW.call (RetQ.e (Count03 (priceX X price) HVP.out (some ⟨G, 0, none⟩) l cap x.w HPO.out (hwk.ext x.h))))
    have HFA := Lib.hid (fun x : ExtW W7 => ExtW.call (RetE.bf HNF.out (farPlan03 (some ⟨G, 0, none⟩) l cap x.w (hwk.ext x.h) HBP.out)))
    have HKE := Lib.hid (fun x : ExtW W7 => ExtW.call (isKnown03 e0 HEE.out x.w))
    have HK0 := Lib.hid (fun x : ExtW W7 => ExtW.call (isKnown03 0 (Or.inl rfl) x.w))
    have HWK := Lib.hid (fun x : ExtW W7 => ExtW.call (works03 x.w))
    have hEw := HE6.out.trans (x0.h.trans hE7)
    have HEW := Lib.hid hEw
    obtain ⟨pc, hpcd⟩ : ∃ pc, pc = cntN l l.length := ⟨_, rfl⟩
    rw [← hpcd] at HCO HL3 HL0 hpc
    clear hwk hE7 hEw HPL q0 q1 q2 q3 q4 q5 hpcd
    obtain ⟨x1, hx1⟩ := ExtW.of (Ext.refl W7)
    conv => arg 5; rw [hx1]
    clear hx1 x0
    rcases HEE.out with h0 | h0
    · subst h0
      obtain ⟨h1, h2⟩ := HL0.out rfl
      clear HL0 HL3 HEE HKE
      rcases h1 with h1 | h1
      all_goals rcases h2 with h2 | h2
      all_goals
        go_wp2_with (first
          | (go_at_call 37; refine (HK0.out _).mono ?_; rintro e w' ⟨rfl, y8, rfl⟩)
          | (go_at_call 15; refine (HFA.out _).mono ?_; rintro e w' ⟨rfl, y9, rfl⟩)
          | (go_at_call 43; refine (HCO.out _).mono ?_; rintro e w' ⟨rfl, y10, rfl⟩)
          | (go_at_call 16; refine (HWK.out _).mono ?_; rintro e w' ⟨rfl, z9, rfl⟩))
      all_goals
        go_ret
        exact RetE.fin (HEW.out.trans z9.h) rfl
    · subst h0
      have h1 : pc = 0 := by have := HL3.out rfl; omega
      subst h1
      clear HL0 HL3 HEE
      go_wp2_with (first
          | (go_at_call_of 37 (Value.int .i64 3); refine (HKE.out _).mono ?_; rintro e w' ⟨rfl, y8, rfl⟩)
          | (go_at_call 37; refine (HK0.out _).mono ?_; rintro e w' ⟨rfl, y8, rfl⟩)
          | (go_at_call 15; refine (HFA.out _).mono ?_; rintro e w' ⟨rfl, y9, rfl⟩)
          | (go_at_call 43; refine (HCO.out _).mono ?_; rintro e w' ⟨rfl, y10, rfl⟩)
          | (go_at_call 16; refine (HWK.out _).mono ?_; rintro e w' ⟨rfl, z9, rfl⟩))
      go_ret
      exact RetE.fin (HEW.out.trans z9.h) rfl
end Go.Proofs.Ytkcilgjkdiopnaa
