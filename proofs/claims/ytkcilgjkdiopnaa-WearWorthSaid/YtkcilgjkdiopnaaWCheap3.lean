/- The walk of WearCheapest. -/
import Derived.Test.YtkcilgjkdiopnaaR3n
import Derived.Test.YtkcilgjkdiopnaaB3a
import Derived.Test.YtkcilgjkdiopnaaWRun3
namespace Go.Proofs.Ytkcilgjkdiopnaa
open Go.RowKit

theorem cheap_cases {X : Wr} (hX : ValidW X) : (bestW X = none ∧ cheapV X = .tuple #[.int .i64 0, .int .i64 3] ∧ needV X = .tuple #[.int .i64 0, .int .i64 3] ∧ recsV X = .tuple #[.int .i64 0, .int .i64 3]) ∨
    ∃ (c : Ch) (a b : Int), bestW X = some c ∧ cheapV X = .tuple #[.int .i64 (allW X c X.price), .int .i64 0] ∧ needV X = .tuple #[.int .i64 a, .int .i64 0] ∧ recsV X = .tuple #[.int .i64 b, .int .i64 0] ∧ firstBad X (planOf X c) < 0 ∧ costPl X (planOf X c) (planOf X c).length = allW X c X.price := by
  rcases answers hX with ⟨h0, h1, h2, h3⟩ | ⟨m, a, b, h1, h2, h3, -⟩
  · refine Or.inl ⟨?_, h1, h2, h3⟩
    unfold bestW
    rw [h0]
    rfl
  · cases hb : bestW X with
    | none => unfold cheapV at h1; rw [hb] at h1; cases h1
    | some c =>
      have h4 := plan_law hX (bestW_mem hb)
      exact Or.inr ⟨c, a, b, rfl, by unfold cheapV; rw [hb], h2, h3, h4.1, h4.2⟩

theorem notfar_nil : ¬FarP [] := fun h => h.elim (fun h => by simp at h) (fun ⟨x, hx, _⟩ => by simp at hx)

set_option maxRecDepth 20000 in
set_option maxHeartbeats 16000000 in
theorem WearCheapest03 (v : Value) (X : Wr) (w : World) (hv : WrV w v X) (hM : BigW X) :
    Calls Try.prog 11 #[v] w (RetE (.bool true) w) := by
  have HV := Lib.hid hv
  have HB := Lib.hid hM
  have m2 := hM.recs
  obtain ⟨p, c, q, d, rfl, h1, h2⟩ := hv
  clear hM
  go_enter Try.func11, Try.ntmps11
  go_upto_region 1 with (fail)
  generalize hW : World.alloc _ _ = W
  have hn : W.heap[w.heap.size]? = some (.cells #[.int .i64 X.weeks, .int .i64 X.price, .int .i64 X.age, .int .i64 X.step, .slice p X.rough.length c, .slice q X.recs.length d] 25) := by rw [← hW]; exact heap_new _ _
  have hE : Ext w W := by rw [← hW]; exact Ext.alloc (Ext.refl w) _
  have q0 := ExtW.cell (v := .int .i64 X.weeks) (cell_of_heap hn 0)
  have q1 := ExtW.cell (v := .int .i64 X.price) (cell_of_heap hn 1)
  have q2 := ExtW.cell (v := .int .i64 X.age) (cell_of_heap hn 2)
  have q3 := ExtW.cell (v := .int .i64 X.step) (cell_of_heap hn 3)
  have q4 := ExtW.cell (v := .slice p X.rough.length c) (cell_of_heap hn 4)
  have q5 := ExtW.cell (v := .slice q X.recs.length d) (cell_of_heap hn 5)
  have HWK := Lib.hid (fun x : ExtW W => ExtW.call (works03 x.w))
  have HR := fun x : ExtW W => Far03 _ X x.w (WrV.mono _ _ _ _ (hE.trans x.h) HV.out) HB.out
  have HE := Lib.hid hE
  obtain ⟨x0, hx0⟩ := ExtW.of (Ext.refl W)
  clear hW hn h1 h2
  conv => arg 5; rw [hx0]
  clear hx0
  by_cases hR : FarW X
  case pos =>
    have HR2 := Lib.hid (fun x : ExtW W => ExtW.call (RetE.bt hR (HR x)))
    clear HR hR
    go_wp2_with (first | (go_at_call 14; refine (HR2.out _).mono ?_; rintro e w' ⟨rfl, x1, rfl⟩) | (go_at_call 16; refine (HWK.out _).mono ?_; rintro e w' ⟨rfl, x2, rfl⟩))
    go_ret
    exact RetE.fin (hE.trans x2.h) rfl
  have HR2 := Lib.hid (fun x : ExtW W => ExtW.call (RetE.bf hR (HR x)))
  have HNF := Lib.hid hR
  clear HR hR
  have hnw : ¬WideW X := fun h => HNF.out (Or.inl h)
  have hmo := modest_of_w hnw
  simp only [WideW, not_or, not_exists, not_and] at hnw
  obtain ⟨w1, w2, w3⟩ := hnw
  have HMO := Lib.hid hmo
  have HCP := Lib.hid (fun x : ExtW W => Copy03m _ X x.w (WrV.mono _ _ _ _ (hE.trans x.h) HV.out) (by omega) (by omega) (fun r hr => by have := w3 r hr; omega))
  clear hmo w3
  go_upto_region 4 with (first
    | (go_at_call 14; refine (HR2.out _).mono ?_; rintro e w' ⟨rfl, x1, rfl⟩)
    | (go_at_call 17; refine (HCP.out _).mono ?_; rintro e W4 ⟨p4, c4, q4', d4, rfl, hE4, ho⟩))
  obtain ⟨b5, hb5⟩ : ∃ b, b = W4.heap.size := ⟨_, rfl⟩
  generalize hW6 : World.alloc _ _ = W6
  have hn6 : W6.heap[b5]? = some (.cells #[.int .i64 X.weeks, .int .i64 X.price, .int .i64 X.age, .int .i64 X.step, .slice p4 X.rough.length c4, .slice q4' X.recs.length d4] 25) := by rw [← hW6, hb5]; exact heap_new _ _
  have hE6 : Ext W4 W6 := by rw [← hW6]; exact Ext.alloc (Ext.refl _) _
  have hEx : Ext W W6 := x1.h.trans (hE4.trans hE6)
  have r0 := ExtW.cell (q0 ⟨W6, hEx⟩)
  have r1 := ExtW.cell (q1 ⟨W6, hEx⟩)
  have r2 := ExtW.cell (q2 ⟨W6, hEx⟩)
  have r3 := ExtW.cell (q3 ⟨W6, hEx⟩)
  have r4 := ExtW.cell (q4 ⟨W6, hEx⟩)
  have r5 := ExtW.cell (q5 ⟨W6, hEx⟩)
  simp only at r0 r1 r2 r3 r4 r5
  have z0 := ExtW.cell (v := .int .i64 X.weeks) (cell_of_heap hn6 0)
  have z1 := ExtW.cell (v := .int .i64 X.price) (cell_of_heap hn6 1)
  have z2 := ExtW.cell (v := .int .i64 X.age) (cell_of_heap hn6 2)
  have z3 := ExtW.cell (v := .int .i64 X.step) (cell_of_heap hn6 3)
  have z4 := ExtW.cell (v := .slice p4 X.rough.length c4) (cell_of_heap hn6 4)
  have z5 := ExtW.cell (v := .slice q4' X.recs.length d4) (cell_of_heap hn6 5)
  have hEw := HE.out.trans hEx
  have HVX := Lib.hid (fun x : ExtW W6 => WrV.mono _ _ _ _ (hEw.trans x.h) HV.out)
  have HVY := Lib.hid (fun x : ExtW W6 => WrV.mono _ _ _ _ (hE6.trans x.h) ho.wr)
  have SA := Lib.hid (fun x : ExtW W6 => ExtW.call (same03 _ _ X x.w (HVY.out x) (HVX.out x) HMO.out))
  have WK := Lib.hid (fun x : ExtW W6 => ExtW.call (works03 x.w))
  have hB1 := fun x : ExtW W6 => CheapestR03 _ X x.w (HVX.out x) HMO.out
  have hB2 := fun x : ExtW W6 => NeedlesR03 _ X x.w (HVX.out x) HMO.out
  have hB3 := fun x : ExtW W6 => RecordsR03 _ X x.w (HVX.out x) HMO.out
  have HEW := Lib.hid hEw
  rw [← hb5]
  obtain ⟨y0, hy0⟩ := ExtW.of (Ext.refl W6)
  clear hW6 hn6 hE6 hEx hEw hE4 ho q0 q1 q2 q3 q4 q5 hb5 HR2 HCP HWK x0 x1
  conv => arg 5; rw [hy0]
  clear hy0
  by_cases hX : ValidW X
  case neg =>
    rw [refV_bad hX] at hB1 hB2 hB3
    have HB1 := Lib.hid hB1
    have HB2 := Lib.hid hB2
    have HB3 := Lib.hid hB3
    clear hB1 hB2 hB3
    have A1 := Lib.hid (fun x => ExtW.call (CheapestBad03 _ X x.w (HVY.out x) hX HMO.out))
    have A2 := Lib.hid (fun x => ExtW.call (NeedlesBad03 _ X x.w (HVY.out x) hX HMO.out))
    have A3 := Lib.hid (fun x => ExtW.call (RecordsBad03 _ X x.w (HVY.out x) hX HMO.out))
    have B1 := Lib.hid (fun x => ExtW.call (HB1.out x))
    have B2 := Lib.hid (fun x => ExtW.call (HB2.out x))
    have B3 := Lib.hid (fun x => ExtW.call (HB3.out x))
    have PL := Lib.hid (fun x => ExtW.call (PlanBad03 _ X x.w (HVY.out x) hX HMO.out))
    clear HB1 HB2 HB3
    have FP := Lib.hid (fun x : ExtW W6 => ExtW.call (RetE.bf notfar_nil (farPlan03 none [] 0 x.w (fun i hi => absurd hi (by simp)) ⟨by simp, fun x hx => by simp at hx⟩)))
    go_wp2_with (first
      | (go_at_call 36; refine (A1.out _).mono ?_; rintro e w' ⟨rfl, y2, rfl⟩)
      | (go_at_call 44; refine (B1.out _).mono ?_; rintro e w' ⟨rfl, y3, rfl⟩)
      | (go_at_call 40; refine (A2.out _).mono ?_; rintro e w' ⟨rfl, y4, rfl⟩)
      | (go_at_call 45; refine (B2.out _).mono ?_; rintro e w' ⟨rfl, y5, rfl⟩)
      | (go_at_call 41; refine (A3.out _).mono ?_; rintro e w' ⟨rfl, y6, rfl⟩)
      | (go_at_call 46; refine (B3.out _).mono ?_; rintro e w' ⟨rfl, y7, rfl⟩)
      | (go_at_call 42; refine (PL.out _).mono ?_; rintro e w' ⟨rfl, y8, rfl⟩)
      | (go_at_call 15; refine (FP.out _).mono ?_; rintro e w' ⟨rfl, y9, rfl⟩)
      | (go_at_call 26; refine (SA.out _).mono ?_; rintro e w' ⟨rfl, y10, rfl⟩)
      | (go_at_call 16; refine (WK.out _).mono ?_; rintro e w' ⟨rfl, y11, rfl⟩))
    go_ret
    exact RetE.fin (HEW.out.trans y11.h) rfl
  obtain ⟨e1, e2, e3⟩ := ref_answers hX
  have hA1 := fun x : ExtW W6 => Cheapest03 _ X x.w (HVY.out x) hX HMO.out
  have hA2 := fun x : ExtW W6 => Needles03 _ X x.w (HVY.out x) hX HMO.out
  have hA3 := fun x : ExtW W6 => Records03 _ X x.w (HVY.out x) hX HMO.out
  rw [e1] at hB1
  rw [e2] at hB2
  rw [e3] at hB3
  clear e1 e2 e3
  rcases cheap_cases hX with ⟨k0, k1, k2, k3⟩ | ⟨ch, na, rb, k0, k1, k2, k3, k4, k5⟩
  · rw [k1] at hA1 hB1
    rw [k2] at hA2 hB2
    rw [k3] at hA3 hB3
    have HB1 := Lib.hid hB1
    have HB2 := Lib.hid hB2
    have HB3 := Lib.hid hB3
    have A1 := Lib.hid (fun x => ExtW.call (hA1 x))
    have A2 := Lib.hid (fun x => ExtW.call (hA2 x))
    have A3 := Lib.hid (fun x => ExtW.call (hA3 x))
    have B1 := Lib.hid (fun x => ExtW.call (HB1.out x))
    have B2 := Lib.hid (fun x => ExtW.call (HB2.out x))
    have B3 := Lib.hid (fun x => ExtW.call (HB3.out x))
    have PL := Lib.hid (fun x => ExtW.call (Plan03n _ X x.w (HVY.out x) hX k0))
    clear HB1 HB2 HB3 hA1 hA2 hA3 hB1 hB2 hB3 k0 k1 k2 k3
    have FP := Lib.hid (fun x : ExtW W6 => ExtW.call (RetE.bf notfar_nil (farPlan03 none [] 0 x.w (fun i hi => absurd hi (by simp)) ⟨by simp, fun x hx => by simp at hx⟩)))
    go_wp2_with (first
      | (go_at_call 36; refine (A1.out _).mono ?_; rintro e w' ⟨rfl, y2, rfl⟩)
      | (go_at_call 44; refine (B1.out _).mono ?_; rintro e w' ⟨rfl, y3, rfl⟩)
      | (go_at_call 40; refine (A2.out _).mono ?_; rintro e w' ⟨rfl, y4, rfl⟩)
      | (go_at_call 45; refine (B2.out _).mono ?_; rintro e w' ⟨rfl, y5, rfl⟩)
      | (go_at_call 41; refine (A3.out _).mono ?_; rintro e w' ⟨rfl, y6, rfl⟩)
      | (go_at_call 46; refine (B3.out _).mono ?_; rintro e w' ⟨rfl, y7, rfl⟩)
      | (go_at_call 42; refine (PL.out _).mono ?_; rintro e w' ⟨rfl, y8, rfl⟩)
      | (go_at_call 15; refine (FP.out _).mono ?_; rintro e w' ⟨rfl, y9, rfl⟩)
      | (go_at_call 26; refine (SA.out _).mono ?_; rintro e w' ⟨rfl, y10, rfl⟩)
      | (go_at_call 16; refine (WK.out _).mono ?_; rintro e w' ⟨rfl, y11, rfl⟩))
    go_ret
    exact RetE.fin (HEW.out.trans y11.h) rfl
  · rw [k1] at hA1 hB1
    rw [k2] at hA2 hB2
    rw [k3] at hA3 hB3
    obtain ⟨ca, hca⟩ : ∃ ca, ca = allW X ch X.price := ⟨_, rfl⟩
    rw [← hca] at hA1 hB1 k5
    have A1 := Lib.hid (fun x => ExtW.call (hA1 x))
    have A2 := Lib.hid (fun x => ExtW.call (hA2 x))
    have A3 := Lib.hid (fun x => ExtW.call (hA3 x))
    have B1 := Lib.hid (fun x => ExtW.call (hB1 x))
    have B2 := Lib.hid (fun x => ExtW.call (hB2 x))
    have B3 := Lib.hid (fun x => ExtW.call (hB3 x))
    have PL := Lib.hid (fun x : ExtW W6 => Plan03s _ X x.w (HVY.out x) hX k0)
    have hok := planOf_ok hX ch
    obtain ⟨hp6, hr6⟩ := modestP hX hok
    have hnf : ¬FarP (planOf X ch) := fun h => h.elim (fun h => by omega) (fun ⟨x, hx, h⟩ => by have := hr6 x hx; omega)
    have hbp : BigP (planOf X ch) := ⟨by omega, fun x hx => by have := hr6 x hx; omega⟩
    have hx4 := hX.recs
    obtain ⟨L, hL⟩ : ∃ L, L = planOf X ch := ⟨_, rfl⟩
    rw [← hL] at hok hp6 hr6 hnf hbp k4 k5
    have PL2 : ∀ x : ExtW W6, Calls Try.prog 42 _ x.w _ := fun x => by have := PL.out x; rw [← hL] at this; exact this
    have PL2 := Lib.hid PL2
    have HK := Lib.hid (show PlanOK X L ∧ ¬FarP L ∧ BigP L ∧ firstBad X L < 0 ∧ costPl X L L.length = ca ∧ ValidW X ∧ ∀ x ∈ L, x.recs.length ≤ 6 from ⟨hok, hnf, hbp, k4, k5, hX, hr6⟩)
    clear hA1 hA2 hA3 hB1 hB2 hB3 k0 k1 k2 k3 k4 k5 hok hnf hbp hr6 hL hca PL hX
    go_upto_region 13 with (first
      | (go_at_call 36; refine (A1.out _).mono ?_; rintro e w' ⟨rfl, y2, rfl⟩)
      | (go_at_call 44; refine (B1.out _).mono ?_; rintro e w' ⟨rfl, y3, rfl⟩)
      | (go_at_call 40; refine (A2.out _).mono ?_; rintro e w' ⟨rfl, y4, rfl⟩)
      | (go_at_call 45; refine (B2.out _).mono ?_; rintro e w' ⟨rfl, y5, rfl⟩)
      | (go_at_call 41; refine (A3.out _).mono ?_; rintro e w' ⟨rfl, y6, rfl⟩)
      | (go_at_call 46; refine (B3.out _).mono ?_; rintro e w' ⟨rfl, y7, rfl⟩)
      | (go_at_call 42; refine (PL2.out _).mono ?_; rintro e W7 ⟨hE7, G, cap, rfl, hpl⟩))
    have hE67 := y7.h.trans hE7
    have s0 := ExtW.cell (r0 ⟨W7, hE67⟩)
    have s1 := ExtW.cell (r1 ⟨W7, hE67⟩)
    have s2 := ExtW.cell (r2 ⟨W7, hE67⟩)
    have s3 := ExtW.cell (r3 ⟨W7, hE67⟩)
    have s4 := ExtW.cell (r4 ⟨W7, hE67⟩)
    have s5 := ExtW.cell (r5 ⟨W7, hE67⟩)
    have t0 := ExtW.cell (z0 ⟨W7, hE67⟩)
    have t1 := ExtW.cell (z1 ⟨W7, hE67⟩)
    have t2 := ExtW.cell (z2 ⟨W7, hE67⟩)
    have t3 := ExtW.cell (z3 ⟨W7, hE67⟩)
    have t4 := ExtW.cell (z4 ⟨W7, hE67⟩)
    have t5 := ExtW.cell (z5 ⟨W7, hE67⟩)
    simp only at s0 s1 s2 s3 s4 s5 t0 t1 t2 t3 t4 t5
    obtain ⟨j1, j2, j3, j4, j5, j6, j7⟩ := HK.out
    have hvx := fun x : ExtW W7 => HVX.out ⟨x.w, hE67.trans x.h⟩
    have hvy := fun x : ExtW W7 => HVY.out ⟨x.w, hE67.trans x.h⟩
    have FP := Lib.hid (fun x : ExtW W7 => ExtW.call (RetE.bf j2 (farPlan03 _ L cap x.w (hpl.ext x.h) j3)))
    have SA2 := Lib.hid (fun x : ExtW W7 => ExtW.call (show Calls _ _ _ x.w (RetE _ x.w) from same03 _ _ X x.w (hvy x) (hvx x) HMO.out))
    have IP := Lib.hid (fun x : ExtW W7 => ExtW.call (RetE.bt j1 (IsPlan03 _ X _ L cap x.w (hvx x) (by omega) (by omega) (fun y hy => by have := j7 y hy; omega) (hpl.ext x.h))))
    have FB := Lib.hid (fun x : ExtW W7 => ExtW.call (show Calls _ _ _ x.w (RetE _ x.w) from FirstBadR03 _ X _ L cap x.w (hvx x) j6 j1 (hpl.ext x.h)))
    have CO := fun x : ExtW W7 => ExtW.call (show Calls _ _ _ x.w (RetE _ x.w) from Cost03 _ X _ L cap x.w (hvx x) j6 j1 (hpl.ext x.h))
    rw [j5] at CO
    have CO := Lib.hid CO
    have WK2 := Lib.hid (fun x : ExtW W7 => ExtW.call (works03 x.w))
    have HEW7 := Lib.hid (HEW.out.trans hE67)
    obtain ⟨fb, hfb⟩ : ∃ fb, fb = firstBad X L := ⟨_, rfl⟩
    rw [← hfb] at FB j4
    obtain ⟨v0, hv0⟩ := ExtW.of (Ext.refl W7)
    clear r0 r1 r2 r3 r4 r5 z0 z1 z2 z3 z4 z5 hvx hvy j1 j2 j3 j5 j6 j7 HK SA WK hE7 hE67 hpl A1 A2 A3 B1 B2 B3 PL2 y0 y2 y3 y4 y5 y6 y7 hfb
    conv => arg 5; rw [hv0]
    clear hv0
    go_wp2_with (first
      | (go_at_call 15; refine (FP.out _).mono ?_; rintro e w' ⟨rfl, v1, rfl⟩)
      | (go_at_call 26; refine (SA2.out _).mono ?_; rintro e w' ⟨rfl, v2, rfl⟩)
      | (go_at_call 33; refine (IP.out _).mono ?_; rintro e w' ⟨rfl, v3, rfl⟩)
      | (go_at_call 47; refine (FB.out _).mono ?_; rintro e w' ⟨rfl, v4, rfl⟩)
      | (go_at_call 48; refine (CO.out _).mono ?_; rintro e w' ⟨rfl, v5, rfl⟩)
      | (go_at_call 16; refine (WK2.out _).mono ?_; rintro e w' ⟨rfl, v6, rfl⟩))
    go_ret
    exact RetE.fin (HEW7.out.trans v6.h) rfl
end Go.Proofs.Ytkcilgjkdiopnaa
