/- The walk of WearRun. -/
import Derived.Test.YtkcilgjkdiopnaaR3e
import Derived.Test.YtkcilgjkdiopnaaPr3b
namespace Go.Proofs.Ytkcilgjkdiopnaa
open Go.RowKit

/-- Copy, of a box that need not be valid, with the value laid open -/
theorem Copy03m (v : Value) (X : Wr) (w : World) (hv : WrV w v X) (h1 : X.rough.length ≤ 1000) (h2 : X.recs.length ≤ 1000) (h3 : ∀ r ∈ X.recs, r.plays.length ≤ 1000) :
    Calls Try.prog 17 #[v] w (fun e w' => ∃ p c q d, e = .returned (.agg #[.int .i64 X.weeks, .int .i64 X.price, .int .i64 X.age, .int .i64 X.step, .slice p X.rough.length c, .slice q X.recs.length d]) ∧ Ext w w' ∧ BoxOwn (w.heap.size + 3) w' (.agg (wrCells X p c q d)) X) := by
  refine (Copy03 v X w hv h1 h2 h3).mono ?_
  rintro e w' ⟨u, rfl, hE, gp, cp, gq, d, xs, g, cc, rfl, h⟩
  exact ⟨_, _, _, _, rfl, hE, gp, cp, gq, d, xs, g, cc, rfl, h⟩
theorem CopyPlan03s (pp : Option Addr) (l : List Wk) (pc : Nat) (w : World) (hl : l.length ≤ 1000) (hr : ∀ x ∈ l, x.recs.length ≤ 1000) (hp : WksAt w pp l) :
    Calls Try.prog 18 #[.slice pp l.length pc] w (fun e w' => ∃ q c, e = .returned (.slice q l.length c) ∧ Ext w w' ∧ WksAt w' q l) := by
  refine (CopyPlan03 pp l pc w hl hr hp).mono ?_
  rintro e w' ⟨v, rfl, hE, ho⟩
  obtain ⟨q, c, rfl, hw⟩ := ho.wks
  exact ⟨q, c, rfl, hE, hw⟩
theorem run_ok {P : Program} {f : FuncId} {args : Array Value} {X : Wr} {l : List Wk} {w : World} (h : Calls P f args w (RunPost X l w)) (hX : ValidW X) (hP : PlanOK X l) :
    Calls P f args w (fun e w' => ∃ p c, e = .returned (.tuple #[.slice p X.recs.length c, .int .i64 (runTo X l l.length).age, .int .i64 (runTo X l l.length).cost, .int .i64 0]) ∧ Ext w w' ∧ IntsAt w' p (wornL X.recs.length (runTo X l l.length).worn)) := by
  refine h.mono ?_
  rintro e w' ⟨hE, ⟨-, -, v, he, p, c, hv, hi⟩ | ⟨-, h2, -⟩ | ⟨h2, -⟩⟩
  · rw [wornL_len] at hv
    subst hv
    exact ⟨p, c, he, hE, hi⟩
  · exact absurd hP h2
  · exact absurd hX h2
theorem run_bad {P : Program} {f : FuncId} {args : Array Value} {X : Wr} {l : List Wk} {w : World} (h : Calls P f args w (RunPost X l w)) (hn : ¬(ValidW X ∧ PlanOK X l)) {er : Int} (her : goodV X l = .tuple #[.bool false, .int .i64 0, .int .i64 er]) :
    Calls P f args w (RetE (.tuple #[.slice none 0 0, .int .i64 0, .int .i64 0, .int .i64 er]) w) := by
  refine h.mono ?_
  rintro e w' ⟨hE, ⟨h1, h2, -⟩ | ⟨h1, h2, he⟩ | ⟨h2, he⟩⟩
  · exact absurd ⟨h1, h2⟩ hn
  · rw [goodV_arg h1 h2] at her
    cases her
    exact ⟨he, hE⟩
  · rw [goodV_bad h2] at her
    cases her
    exact ⟨he, hE⟩
theorem good_bad {X : Wr} {l : List Wk} (hn : ¬(ValidW X ∧ PlanOK X l)) : ∃ er : Int, goodV X l = .tuple #[.bool false, .int .i64 0, .int .i64 er] := by
  by_cases hX : ValidW X
  · exact ⟨1, goodV_arg hX (fun h => hn ⟨hX, h⟩)⟩
  · exact ⟨30, goodV_bad hX⟩
theorem runR_eq {X : Wr} {l : List Wk} {w : World} {e : Ending} {w' : World} (h : RunPostR X l w e w') : RunPost X l w e w' := h

set_option maxRecDepth 20000 in
set_option maxHeartbeats 16000000 in
theorem WearRun03 (v : Value) (X : Wr) (pp : Option Addr) (l : List Wk) (pc : Nat) (w : World) (hv : WrV w v X) (hM : BigW X) (h : WksAt w pp l) (hP : BigP l) :
    Calls Try.prog 3 #[v, .slice pp l.length pc] w (RetE (.bool true) w) := by
  have HV := Lib.hid hv
  have HP := Lib.hid hP
  have HB := Lib.hid hM
  have m2 := hM.recs
  have ml := hP.len
  obtain ⟨p, c, q, d, rfl, h1, h2⟩ := hv
  clear hM hP
  go_enter Try.func3, Try.ntmps3
  go_upto_region 1 with (fail)
  generalize hW : World.alloc _ _ = W
  have hn : W.heap[w.heap.size]? = some (.cells #[.int .i64 X.weeks, .int .i64 X.price, .int .i64 X.age, .int .i64 X.step, .slice p X.rough.length c, .slice q X.recs.length d] 25) := by rw [← hW]; exact heap_new _ _
  have hE : Ext w W := by rw [← hW]; exact Ext.alloc (Ext.refl w) _
  have q0 := ExtW.cell (v := .int .i64 X.weeks) (cell_of_heap hn 0)
  have q1 := ExtW.cell (v := .int .i64 X.price) (cell_of_heap hn 1)
  have q2 := ExtW.cell (v := .int .i64 X.age) (cell_of_heap hn 2)
  have q3 := ExtW.cell (v := .int .i64 X.step) (cell_of_heap hn 3)
  have q4 := ExtW.cell (v := .slice p X.rough.length c) (cell_of_heap hn 4)
  have q5 := ExtW.cell (v := .slice q X.recs.length d) (cell_of_heap hn 5)
  have HWK := Lib.hid (fun x : ExtW W => ExtW.call (works03 x.w))
  have HR := fun x : ExtW W => Far03 _ X x.w (WrV.mono _ _ _ _ (hE.trans x.h) HV.out) HB.out
  have HF := fun x : ExtW W => farPlan03 pp l pc x.w (h.ext (hE.trans x.h)) HP.out
  have HPL := Lib.hid (h.ext hE)
  have HE := Lib.hid hE
  obtain ⟨x0, hx0⟩ := ExtW.of (Ext.refl W)
  clear hW hn h h1 h2
  conv => arg 5; rw [hx0]
  clear hx0
  by_cases hR : FarW X
  case pos =>
    have HR2 := Lib.hid (fun x : ExtW W => ExtW.call (RetE.bt hR (HR x)))
    clear HR HF hR
    go_wp2_with (first | (go_at_call 14; refine (HR2.out _).mono ?_; rintro e w' ⟨rfl, x1, rfl⟩) | (go_at_call 16; refine (HWK.out _).mono ?_; rintro e w' ⟨rfl, x2, rfl⟩))
    go_ret
    exact RetE.fin (hE.trans x2.h) rfl
  have HR2 := Lib.hid (fun x : ExtW W => ExtW.call (RetE.bf hR (HR x)))
  have HNF := Lib.hid hR
  clear HR hR
  by_cases hF : FarP l
  case pos =>
    have HF2 := Lib.hid (fun x : ExtW W => ExtW.call (RetE.bt hF (HF x)))
    clear HF hF
    go_wp2_with (first | (go_at_call 14; refine (HR2.out _).mono ?_; rintro e w' ⟨rfl, x1, rfl⟩) | (go_at_call 15; refine (HF2.out _).mono ?_; rintro e w' ⟨rfl, x3, rfl⟩) | (go_at_call 16; refine (HWK.out _).mono ?_; rintro e w' ⟨rfl, x2, rfl⟩))
    go_ret
    exact RetE.fin (hE.trans x2.h) rfl
  have HF2 := Lib.hid (fun x : ExtW W => ExtW.call (RetE.bf hF (HF x)))
  obtain ⟨hl40, hr40⟩ := not_farP hF
  have hnw : ¬WideW X := fun h => HNF.out (Or.inl h)
  have hmo := modest_of_w hnw
  simp only [WideW, not_or, not_exists, not_and] at hnw
  obtain ⟨w1, w2, w3⟩ := hnw
  have HMO := Lib.hid hmo
  have HCP := Lib.hid (fun x : ExtW W => Copy03m _ X x.w (WrV.mono _ _ _ _ (hE.trans x.h) HV.out) (by omega) (by omega) (fun r hr => by have := w3 r hr; omega))
  have HCL := Lib.hid (fun y (hy : Ext W y) => CopyPlan03s pp l pc y (by omega) (fun r hr => by have := hr40 r hr; omega) (HPL.out.ext hy))
  have HR40 := Lib.hid hr40
  clear hmo w3 hr40 HF hF
  go_upto_region 4 with (first
    | (go_at_call 14; refine (HR2.out _).mono ?_; rintro e w' ⟨rfl, x1, rfl⟩)
    | (go_at_call 15; refine (HF2.out _).mono ?_; rintro e w' ⟨rfl, x3, rfl⟩)
    | (go_at_call 17; refine (HCP.out _).mono ?_; rintro e W4 ⟨p4, c4, q4', d4, rfl, hE4, ho⟩)
    | (go_at_call 18; refine (HCL.out _ (x3.h.trans hE4)).mono ?_; rintro e W5 ⟨qp, cq, rfl, hE5, hwp⟩))
  obtain ⟨b5, hb5⟩ : ∃ b, b = W5.heap.size := ⟨_, rfl⟩
  generalize hW6 : World.alloc _ _ = W6
  have hn6 : W6.heap[b5]? = some (.cells #[.int .i64 X.weeks, .int .i64 X.price, .int .i64 X.age, .int .i64 X.step, .slice p4 X.rough.length c4, .slice q4' X.recs.length d4] 25) := by rw [← hW6, hb5]; exact heap_new _ _
  have hE6 : Ext W5 W6 := by rw [← hW6]; exact Ext.alloc (Ext.refl _) _
  have hEx : Ext W W6 := x3.h.trans (hE4.trans (hE5.trans hE6))
  have r0 := ExtW.cell (q0 ⟨W6, hEx⟩)
  have r1 := ExtW.cell (q1 ⟨W6, hEx⟩)
  have r2 := ExtW.cell (q2 ⟨W6, hEx⟩)
  have r3 := ExtW.cell (q3 ⟨W6, hEx⟩)
  have r4 := ExtW.cell (q4 ⟨W6, hEx⟩)
  have r5 := ExtW.cell (q5 ⟨W6, hEx⟩)
  simp only at r0 r1 r2 r3 r4 r5
  have z0 := ExtW.cell (v := .int .i64 X.weeks) (cell_of_heap hn6 0)
  have z1 := ExtW.cell (v := .int .i64 X.price) (cell_of_heap hn6 1)
  have z2 := ExtW.cell (v := .int .i64 X.age) (cell_of_heap hn6 2)
  have z3 := ExtW.cell (v := .int .i64 X.step) (cell_of_heap hn6 3)
  have z4 := ExtW.cell (v := .slice p4 X.rough.length c4) (cell_of_heap hn6 4)
  have z5 := ExtW.cell (v := .slice q4' X.recs.length d4) (cell_of_heap hn6 5)
  have hEw := HE.out.trans hEx
  have hvx := fun x : ExtW W6 => WrV.mono _ _ _ _ (hEw.trans x.h) HV.out
  have hvy := fun x : ExtW W6 => WrV.mono _ _ _ _ (hE5.trans (hE6.trans x.h)) ho.wr
  have hpx := fun x : ExtW W6 => HPL.out.ext (hEx.trans x.h)
  have hpy := fun x : ExtW W6 => hwp.ext (hE6.trans x.h)
  have hr5 : ∀ y ∈ l, y.recs.length ≤ 100000 := fun y hy => by have := HR40.out y hy; omega
  have HCA := Lib.hid (fun x : ExtW W6 => ExtW.call (Check03 _ X x.w (hvy x) HMO.out))
  have HCB := Lib.hid (fun x : ExtW W6 => ExtW.call (rCheck03 _ X x.w (hvx x) HMO.out))
  have RA := fun x : ExtW W6 => Run03 _ X qp l cq x.w (hvy x) HMO.out (by omega) hr5 (hpy x)
  have RB := fun x : ExtW W6 => (RunR03 _ X pp l pc x.w (hvx x) HMO.out (by omega) hr5 (hpx x)).mono (fun e w' h => runR_eq h)
  have GAr := fun x : ExtW W6 => Good03 _ X qp l cq x.w (hvy x) HMO.out (by omega) hr5 (hpy x)
  have GBr := fun x : ExtW W6 => GoodR03 _ X pp l pc x.w (hvx x) HMO.out (by omega) hr5 (hpx x)
  have SAr := Lib.hid (fun x : ExtW W6 => same03 _ _ X x.w (hvy x) (hvx x) HMO.out)
  have SBr := Lib.hid (fun x : ExtW W6 => samePlan03 qp pp l cq pc x.w (hpy x) (hpx x) (by omega) hr5)
  have HEW := Lib.hid hEw
  obtain ⟨ck, hck⟩ : ∃ ck, ck = chkW X := ⟨_, rfl⟩
  rw [← hck] at HCA HCB
  rw [← hb5]
  obtain ⟨y0, hy0⟩ := ExtW.of (Ext.refl W6)
  clear hW6 hn6 hE6 hEx hEw hvx hvy hpx hpy hr5 hE4 hE5 ho hwp q0 q1 q2 q3 q4 q5 hck hb5 HR2 HF2 HCP HCL x0 x1 x3
  conv => arg 5; rw [hy0]
  clear hy0
  refine wp_region_extW (by kernel_rfl) (by kernel_rfl) ?_
  repeat (go_big_quiet_step (first | (go_at_call 19; exact HCA.out _) | (go_at_call 20; exact HCB.out _)))
  refine wpQuiet_nil ?_
  rintro _ ⟨y1, rfl⟩
  clear HCA HCB y0
  by_cases hA : ValidW X ∧ PlanOK X l
  case neg =>
    obtain ⟨er, her⟩ := good_bad hA
    have RA2 := Lib.hid (fun x => ExtW.call (run_bad (RA x) hA her))
    have RB2 := Lib.hid (fun x => ExtW.call (run_bad (RB x) hA her))
    rw [her] at GAr GBr
    have GA := Lib.hid (fun x => ExtW.call (GAr x))
    have GB := Lib.hid (fun x => ExtW.call (GBr x))
    have SA := Lib.hid (fun x => ExtW.call (SAr.out x))
    have SB := Lib.hid (fun x => ExtW.call (SBr.out x))
    have HWK := Lib.hid (fun x : ExtW W6 => ExtW.call (works03 x.w))
    have HSI := Lib.hid (fun x : ExtW W6 => ExtW.call (RetQ.e (RetQ.bt rfl (SameInts01 none none [] [] 0 0 x.w (by simp) (by simp) (fun i hi => absurd hi (by simp)) (fun i hi => absurd hi (by simp))))))
    clear RA RB hA her GAr GBr
    go_wp2_with (first
      | (go_at_call 21; refine (RA2.out _).mono ?_; rintro e w' ⟨rfl, y2, rfl⟩)
      | (go_at_call 22; refine (RB2.out _).mono ?_; rintro e w' ⟨rfl, y3, rfl⟩)
      | (go_at_call 23; refine (GA.out _).mono ?_; rintro e w' ⟨rfl, y4, rfl⟩)
      | (go_at_call 24; refine (GB.out _).mono ?_; rintro e w' ⟨rfl, y5, rfl⟩)
      | (go_at_call 25; refine (HSI.out _).mono ?_; rintro e w' ⟨rfl, y6, rfl⟩)
      | (go_at_call 26; refine (SA.out _).mono ?_; rintro e w' ⟨rfl, y7, rfl⟩)
      | (go_at_call 27; refine (SB.out _).mono ?_; rintro e w' ⟨rfl, y8, rfl⟩)
      | (go_at_call 16; refine (HWK.out _).mono ?_; rintro e w' ⟨rfl, y9, rfl⟩))
    go_ret
    exact RetE.fin (HEW.out.trans y9.h) rfl
  have RA2 := Lib.hid (fun x => run_ok (RA x) hA.1 hA.2)
  have RB2 := Lib.hid (fun x => run_ok (RB x) hA.1 hA.2)
  rw [goodV_ok hA.1 hA.2] at GAr GBr
  obtain ⟨gd, hgd⟩ : ∃ gd, gd = decide (firstBad X l < 0) := ⟨_, rfl⟩
  obtain ⟨fb, hfb⟩ : ∃ fb, fb = firstBad X l := ⟨_, rfl⟩
  rw [← hgd, ← hfb] at GAr GBr
  have hwl := wornL_len X.recs.length (runTo X l l.length).worn
  obtain ⟨L, hL⟩ : ∃ L, L = wornL X.recs.length (runTo X l l.length).worn := ⟨_, rfl⟩
  rw [← hL] at hwl RA2 RB2
  have hx4 := hA.1.recs
  have GA1 := Lib.hid GAr
  have GB1 := Lib.hid GBr
  have HWL := Lib.hid hwl
  clear RA RB hA GAr GBr hgd hfb hL hwl
  go_upto_region 7 with (go_at_call 21; refine (RA2.out _).mono ?_; rintro e W7 ⟨pa, ca, rfl, hE7, hi7⟩)
  obtain ⟨y2, hy2⟩ := ExtW.of (y1.h.trans hE7)
  subst hy2
  go_upto_region 8 with (go_at_call 22; refine (RB2.out _).mono ?_; rintro e W8 ⟨pb, cb, rfl, hE8, hi8⟩)
  have hEx8 := y2.h.trans hE8
  have s0 := ExtW.cell (r0 ⟨W8, hEx8⟩)
  have s1 := ExtW.cell (r1 ⟨W8, hEx8⟩)
  have s2 := ExtW.cell (r2 ⟨W8, hEx8⟩)
  have s3 := ExtW.cell (r3 ⟨W8, hEx8⟩)
  have s4 := ExtW.cell (r4 ⟨W8, hEx8⟩)
  have s5 := ExtW.cell (r5 ⟨W8, hEx8⟩)
  have t0 := ExtW.cell (z0 ⟨W8, hEx8⟩)
  have t1 := ExtW.cell (z1 ⟨W8, hEx8⟩)
  have t2 := ExtW.cell (z2 ⟨W8, hEx8⟩)
  have t3 := ExtW.cell (z3 ⟨W8, hEx8⟩)
  have t4 := ExtW.cell (z4 ⟨W8, hEx8⟩)
  have t5 := ExtW.cell (z5 ⟨W8, hEx8⟩)
  simp only at s0 s1 s2 s3 s4 s5 t0 t1 t2 t3 t4 t5
  have GA := Lib.hid (fun x : ExtW W8 => ExtW.call (show Calls Try.prog _ _ x.w (RetE _ x.w) from GA1.out ⟨x.w, hEx8.trans x.h⟩))
  have GB := Lib.hid (fun x : ExtW W8 => ExtW.call (show Calls Try.prog _ _ x.w (RetE _ x.w) from GB1.out ⟨x.w, hEx8.trans x.h⟩))
  have SA := Lib.hid (fun x : ExtW W8 => ExtW.call (show Calls Try.prog _ _ x.w (RetE _ x.w) from SAr.out ⟨x.w, hEx8.trans x.h⟩))
  have SB := Lib.hid (fun x : ExtW W8 => ExtW.call (show Calls Try.prog _ _ x.w (RetE _ x.w) from SBr.out ⟨x.w, hEx8.trans x.h⟩))
  have HWK := Lib.hid (fun x : ExtW W8 => ExtW.call (works03 x.w))
  have hsi := fun x : ExtW W8 => ExtW.call (RetQ.e (RetQ.bt rfl (SameInts01 pa pb L L ca cb x.w (by rw [HWL.out]; omega) (by rw [HWL.out]; omega) (hi7.ext (hE8.trans x.h)) (hi8.ext x.h))))
  rw [HWL.out] at hsi
  have HSI := Lib.hid hsi
  have HEW8 := Lib.hid (HEW.out.trans hEx8)
  obtain ⟨y3, hy3⟩ := ExtW.of (Ext.refl W8)
  clear r0 r1 r2 r3 r4 r5 z0 z1 z2 z3 z4 z5 hsi hi7 hi8 GA1 GB1 SAr SBr RA2 RB2
  conv => arg 5; rw [hy3]
  clear hy3
  go_wp2_with (first
    | (go_at_call 23; refine (GA.out _).mono ?_; rintro e w' ⟨rfl, y4, rfl⟩)
    | (go_at_call 24; refine (GB.out _).mono ?_; rintro e w' ⟨rfl, y5, rfl⟩)
    | (go_at_call 25; refine (HSI.out _).mono ?_; rintro e w' ⟨rfl, y6, rfl⟩)
    | (go_at_call 26; refine (SA.out _).mono ?_; rintro e w' ⟨rfl, y7, rfl⟩)
    | (go_at_call 27; refine (SB.out _).mono ?_; rintro e w' ⟨rfl, y8, rfl⟩)
    | (go_at_call 16; refine (HWK.out _).mono ?_; rintro e w' ⟨rfl, y9, rfl⟩))
  go_ret
  exact RetE.fin (HEW8.out.trans y9.h) rfl
end Go.Proofs.Ytkcilgjkdiopnaa
