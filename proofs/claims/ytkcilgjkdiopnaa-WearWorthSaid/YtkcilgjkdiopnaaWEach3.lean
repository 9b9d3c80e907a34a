/- The walk of WearEach. -/
import Derived.Test.YtkcilgjkdiopnaaE03j
namespace Go.Proofs.Ytkcilgjkdiopnaa
open Go.RowKit

theorem replTo_pos (c : Ch) (n : Nat) : 0 ≤ replTo c n := (replTo_bd c n).1
/-- the answers of Cheapest, Needles, Records and Plan, and a plan -/
theorem each_answers {X : Wr} (hX : ValidW X) {l : List Wk} (hP : PlanOK X l) :
    (bestW X = none ∧ cheapV X = .tuple #[.int .i64 0, .int .i64 3] ∧ needV X = .tuple #[.int .i64 0, .int .i64 3] ∧ recsV X = .tuple #[.int .i64 0, .int .i64 3] ∧ ¬firstBad X l < 0) ∨
    ∃ (c : Ch) (m a b : Int), bestW X = some c ∧ cheapV X = .tuple #[.int .i64 m, .int .i64 0] ∧ needV X = .tuple #[.int .i64 a, .int .i64 0] ∧ recsV X = .tuple #[.int .i64 b, .int .i64 0] ∧ (0 ≤ m ∧ m ≤ 30000) ∧ (0 ≤ a ∧ a ≤ 6) ∧ (0 ≤ b ∧ b ≤ 24) ∧
      (firstBad X l < 0 → m ≤ costPl X l l.length ∧ a ≤ cntN l l.length ∧ b ≤ cntR l l.length) ∧ firstBad X (planOf X c) < 0 ∧ costPl X (planOf X c) (planOf X c).length = m := by
  have hok : ∀ c ∈ choicesW X X.weeks.toNat, ChOK X c := fun c hc => choices_ok hX (by have := hX.weeks; omega) hc
  cases hb : bestW X with
  | none =>
    have hnil := leastL_none.1 hb
    refine Or.inl ⟨rfl, by unfold cheapV; rw [hb], by unfold needV; rw [hnil]; rfl, by unfold recsV; rw [hnil]; rfl, fun hg => ?_⟩
    obtain ⟨c, hc, -⟩ := each_law hX hP hg
    rw [hnil] at hc; cases hc
  | some c =>
    have hc := bestW_mem hb
    obtain ⟨d, hd⟩ : ∃ d, leastL (fun c => (popc c.needles : Int)) (choicesW X X.weeks.toNat) = some d := by
      cases h : leastL (fun c => (popc c.needles : Int)) (choicesW X X.weeks.toNat) with
      | none => rw [leastL_none] at h; rw [h] at hc; cases hc
      | some d => exact ⟨d, rfl⟩
    obtain ⟨f, hf⟩ : ∃ f, leastL replW (choicesW X X.weeks.toNat) = some f := by
      cases h : leastL replW (choicesW X X.weeks.toNat) with
      | none => rw [leastL_none] at h; rw [h] at hc; cases hc
      | some d => exact ⟨d, rfl⟩
    obtain ⟨hfm, hfl, -⟩ := leastL_spec _ _ none f hf
    have hfm : f ∈ choicesW X X.weeks.toNat := hfm.elim (fun h => h) (fun h => by cases h)
    obtain ⟨-, hdl, -⟩ := leastL_spec _ _ none d hd
    obtain ⟨-, hcl, -⟩ := leastL_spec _ _ none c hb
    have h6 := popc_le d.needles
    have h7 := replTo_bd f f.records.length
    have h8 := (hok f hfm).len
    have h9 := hX.recs
    refine Or.inr ⟨c, allW X c X.price, popc d.needles, replW f, rfl, by unfold cheapV; rw [hb], by unfold needV; rw [hd], by unfold recsV; rw [hf], allW_bd hX (hok c hc) hX.price, by omega, by unfold replW; omega, fun hg => ?_, (plan_law hX hc).1, (plan_law hX hc).2⟩
    obtain ⟨g, hgc, h1, h2, h3⟩ := each_law hX hP hg
    have := hcl g hgc
    have := hdl g hgc
    have := hfl g hgc
    omega

set_option maxRecDepth 20000 in
set_option maxHeartbeats 8000000 in
theorem WearEach03 (v : Value) (X : Wr) (pp : Option Addr) (l : List Wk) (pc : Nat) (w : World) (hv : WrV w v X) (hM : BigW X) (h : WksAt w pp l) (hP : BigP l) :
    Calls Try.prog 12 #[v, .slice pp l.length pc] w (RetE (.bool true) w) := by
  have HV := Lib.hid hv
  have HP := Lib.hid hP
  have HB := Lib.hid hM
  have m2 := hM.recs
  have ml := hP.len
  obtain ⟨p, c, q, d, rfl, h1, h2⟩ := hv
  clear hM hP
  go_enter Try.func12, Try.ntmps12
  go_upto_region 1 with (fail)
  have hn := heap_new w (.cells (wrCells X p c q d) 25)
  unfold wrCells at hn
  obtain ⟨W, hW⟩ : ∃ W, W = w.alloc (.cells #[.int .i64 X.weeks, .int .i64 X.price, .int .i64 X.age, .int .i64 X.step, .slice p X.rough.length c, .slice q X.recs.length d] 25) := ⟨_, rfl⟩
  have hE : Ext w W := by rw [hW]; exact Ext.alloc (Ext.refl w) _
  rw [← hW] at hn ⊢
  have q0 := ExtW.cell (v := .int .i64 X.weeks) (cell_of_heap hn 0)
  have q1 := ExtW.cell (v := .int .i64 X.price) (cell_of_heap hn 1)
  have q2 := ExtW.cell (v := .int .i64 X.age) (cell_of_heap hn 2)
  have q3 := ExtW.cell (v := .int .i64 X.step) (cell_of_heap hn 3)
  have q4 := ExtW.cell (v := .slice p X.rough.length c) (cell_of_heap hn 4)
  have q5 := ExtW.cell (v := .slice q X.recs.length d) (cell_of_heap hn 5)
  have HWK := Lib.hid (fun x : ExtW W => ExtW.call (works03 x.w))
  have HR := fun x : ExtW W => ready03 _ X x.w (WrV.mono _ _ _ _ (hE.trans x.h) HV.out) HB.out
  have HF := fun x : ExtW W => farPlan03 pp l pc x.w (h.ext (hE.trans x.h)) HP.out
  have HPL := Lib.hid (h.ext hE)
  have HE := Lib.hid hE
  obtain ⟨x0, hx0⟩ := ExtW.of (Ext.refl W)
  clear hW hn h h1 h2
  conv => arg 5; rw [hx0]
  clear hx0
  by_cases hR : ReadyW X
  case neg =>
    have HR2 := Lib.hid (fun x : ExtW W => ExtW.call (RetE.bf hR (HR x)))
    clear HR HF hR
    go_wp2_with (first | (go_at_call 32; refine (HR2.out _).mono ?_; rintro e w' ⟨rfl, x1, rfl⟩) | (go_at_call 16; refine (HWK.out _).mono ?_; rintro e w' ⟨rfl, x2, rfl⟩))
    go_ret
    exact RetE.fin (hE.trans x2.h) rfl
  have HR2 := Lib.hid (fun x : ExtW W => ExtW.call (RetE.bt hR (HR x)))
  have HRD := Lib.hid hR
  clear HR hR
  by_cases hF : FarP l
  case pos =>
    have HF2 := Lib.hid (fun x : ExtW W => ExtW.call (RetE.bt hF (HF x)))
    clear HF hF
    go_wp2_with (first | (go_at_call 32; refine (HR2.out _).mono ?_; rintro e w' ⟨rfl, x1, rfl⟩) | (go_at_call 15; refine (HF2.out _).mono ?_; rintro e w' ⟨rfl, x3, rfl⟩) | (go_at_call 16; refine (HWK.out _).mono ?_; rintro e w' ⟨rfl, x2, rfl⟩))
    go_ret
    exact RetE.fin (hE.trans x2.h) rfl
  have HF2 := Lib.hid (fun x : ExtW W => ExtW.call (RetE.bf hF (HF x)))
  obtain ⟨hl40, hr40⟩ := not_farP hF
  have hrl := HRD.out.1.recs
  have HI := fun x : ExtW W => IsPlan03 _ X pp l pc x.w (WrV.mono _ _ _ _ (hE.trans x.h) HV.out) (by omega) (by omega) (fun y hy => by have := hr40 y hy; omega) (HPL.out.ext x.h)
  clear hr40 HF hF
  by_cases hI : PlanOK X l
  case neg =>
    have HI2 := Lib.hid (fun x : ExtW W => ExtW.call (RetE.bf hI (HI x)))
    clear HI hI
    go_wp2_with (first | (go_at_call 32; refine (HR2.out _).mono ?_; rintro e w' ⟨rfl, x1, rfl⟩) | (go_at_call 15; refine (HF2.out _).mono ?_; rintro e w' ⟨rfl, x3, rfl⟩) | (go_at_call 33; refine (HI2.out _).mono ?_; rintro e w' ⟨rfl, x4, rfl⟩) | (go_at_call 16; refine (HWK.out _).mono ?_; rintro e w' ⟨rfl, x2, rfl⟩))
    go_ret
    exact RetE.fin (hE.trans x2.h) rfl
  have HI2 := Lib.hid (fun x : ExtW W => ExtW.call (RetE.bt hI (HI x)))
  have HIP := Lib.hid hI
  have hX := HRD.out.1
  have hXm := modest_valid hX
  have hvx := fun x : ExtW W => WrV.mono _ _ _ _ (hE.trans x.h) HV.out
  have HGD := fun x : ExtW W => isGood03 _ X pp l pc x.w (hvx x) hX hI (HPL.out.ext x.h)
  have HCH := fun x : ExtW W => ExtW.call (Cheapest03 _ X x.w (hvx x) hX hXm)
  have HND := fun x : ExtW W => ExtW.call (Needles03 _ X x.w (hvx x) hX hXm)
  have HRS := fun x : ExtW W => ExtW.call (Records03 _ X x.w (hvx x) hX hXm)
  have HKN0 := Lib.hid (fun x : ExtW W => ExtW.call (isKnown03 0 (Or.inl rfl) x.w))
  have HKN3 := Lib.hid (fun x : ExtW W => ExtW.call (isKnown03 3 (Or.inr rfl) x.w))
  have HFN := Lib.hid (fun x : ExtW W => ExtW.call (RetE.bf (p := FarP []) (by simp [FarP]) (farPlan03 none [] 0 x.w (fun i hi => absurd hi (by simp)) ⟨by simp, by simp⟩)))
  rcases each_answers hX hI with ⟨hb, hc1, hc2, hc3, hg⟩ | ⟨ch, m, a, b, hb, hc1, hc2, hc3, hm, ha, hb2, hle, hbg, hbc⟩
  · rw [hc1] at HCH
    rw [hc2] at HND
    rw [hc3] at HRS
    have hgd : decide (firstBad X l < 0) = false := by simpa using hg
    rw [hgd] at HGD
    have HPN := Lib.hid (fun x : ExtW W => ExtW.call (Plan03n _ X x.w (hvx x) hX hb))
    have HGD := Lib.hid (fun x : ExtW W => ExtW.call (HGD x))
    have HCH := Lib.hid HCH
    have HND := Lib.hid HND
    have HRS := Lib.hid HRS
    clear hc1 hc2 hc3 hb hg hgd hvx hX hXm hI HI HKN0
    go_wp2_with (first
      | (go_at_call 32; refine (HR2.out _).mono ?_; rintro e w' ⟨rfl, x1, rfl⟩)
      | (go_at_call_of 15 (Value.slice none 0 0); refine (HFN.out _).mono ?_; rintro e w' ⟨rfl, x3, rfl⟩)
      | (go_at_call 15; refine (HF2.out _).mono ?_; rintro e w' ⟨rfl, x3, rfl⟩)
      | (go_at_call 33; refine (HI2.out _).mono ?_; rintro e w' ⟨rfl, x4, rfl⟩)
      | (go_at_call 35; refine (HGD.out _).mono ?_; rintro e w' ⟨rfl, x5, rfl⟩)
      | (go_at_call 36; refine (HCH.out _).mono ?_; rintro e w' ⟨rfl, x6, rfl⟩)
      | (go_at_call 40; refine (HND.out _).mono ?_; rintro e w' ⟨rfl, x7, rfl⟩)
      | (go_at_call 41; refine (HRS.out _).mono ?_; rintro e w' ⟨rfl, x8, rfl⟩)
      | (go_at_call 42; refine (HPN.out _).mono ?_; rintro e w' ⟨rfl, x9, rfl⟩)
      | (go_at_call 37; refine (HKN3.out _).mono ?_; rintro e w' ⟨rfl, x10, rfl⟩)
      | (go_at_call 16; refine (HWK.out _).mono ?_; rintro e w' ⟨rfl, x2, rfl⟩))
    go_ret
    exact RetE.fin (HE.out.trans x2.h) rfl
  · rw [hc1] at HCH
    rw [hc2] at HND
    rw [hc3] at HRS
    have HPN := Lib.hid (fun x : ExtW W => Plan03s _ X x.w (hvx x) hX hb)
    obtain ⟨gd, hgd⟩ : ∃ gd, gd = decide (firstBad X l < 0) := ⟨_, rfl⟩
    rw [← hgd] at HGD
    have HGD := Lib.hid (fun x : ExtW W => ExtW.call (HGD x))
    have HCH := Lib.hid HCH
    have HND := Lib.hid HND
    have HRS := Lib.hid HRS
    have HGDD := Lib.hid hgd
    have HLE := Lib.hid hle
    have HBG := Lib.hid hbg
    have HBC := Lib.hid hbc
    clear hc1 hc2 hc3 hb hgd hle hbg hbc hvx hX hXm hI HI HKN3 HFN
    go_upto_region 8 with (first
      | (go_at_call 32; refine (HR2.out _).mono ?_; rintro e w' ⟨rfl, x1, rfl⟩)
      | (go_at_call 15; refine (HF2.out _).mono ?_; rintro e w' ⟨rfl, x3, rfl⟩)
      | (go_at_call 33; refine (HI2.out _).mono ?_; rintro e w' ⟨rfl, x4, rfl⟩)
      | (go_at_call 35; refine (HGD.out _).mono ?_; rintro e w' ⟨rfl, x5, rfl⟩)
      | (go_at_call 36; refine (HCH.out _).mono ?_; rintro e w' ⟨rfl, x6, rfl⟩)
      | (go_at_call 40; refine (HND.out _).mono ?_; rintro e w' ⟨rfl, x7, rfl⟩)
      | (go_at_call 41; refine (HRS.out _).mono ?_; rintro e w' ⟨rfl, x8, rfl⟩)
      | (go_at_call 42; refine (HPN.out _).mono ?_; rintro e W7 ⟨hE7, G, cap, rfl, hwk⟩))
    obtain ⟨bl, hbl⟩ : ∃ bl, bl = planOf X ch := ⟨_, rfl⟩
    have hpo : PlanOK X bl := by rw [hbl]; exact planOf_ok HRD.out.1 ch
    rw [← hbl] at HBG HBC hwk ⊢
    have hmd := modestP HRD.out.1 hpo
    have hnf : ¬FarP bl := by
      rintro (h | ⟨x, hx, h⟩)
      · omega
      · have := hmd.2 x hx; omega
    have hbp : BigP bl := ⟨by omega, fun x hx => by have := hmd.2 x hx; omega⟩
    have hEx : Ext W W7 := x8.h.trans hE7
    have r0 := ExtW.cell (q0 ⟨W7, hEx⟩)
    have r1 := ExtW.cell (q1 ⟨W7, hEx⟩)
    have r2 := ExtW.cell (q2 ⟨W7, hEx⟩)
    have r3 := ExtW.cell (q3 ⟨W7, hEx⟩)
    have r4 := ExtW.cell (q4 ⟨W7, hEx⟩)
    have r5 := ExtW.cell (q5 ⟨W7, hEx⟩)
    simp only at r0 r1 r2 r3 r4 r5
    have hEw := HE.out.trans hEx
    have hv7 := fun x : ExtW W7 => WrV.mono _ _ _ _ (hEw.trans x.h) HV.out
    have HFB := Lib.hid (fun x : ExtW W7 => ExtW.call (RetE.bf hnf (farPlan03 (some ⟨G, 0, none⟩) bl cap x.w (hwk.ext x.h) hbp)))
    have HKN0 := Lib.hid (fun x : ExtW W7 => ExtW.call (isKnown03 0 (Or.inl rfl) x.w))
    have HCO := Lib.hid (fun x : ExtW W7 => ExtW.call (RetQ.e (Count03 X HRD.out.1 pp l pc x.w HIP.out (HPL.out.ext (hEx.trans x.h)))))
    have HCS := Lib.hid (fun x : ExtW W7 => ExtW.call (Cost03 _ X pp l pc x.w (hv7 x) HRD.out.1 HIP.out (HPL.out.ext (hEx.trans x.h))))
    have hcb := fun x : ExtW W7 => ExtW.call (Cost03 _ X (some ⟨G, 0, none⟩) bl cap x.w (hv7 x) HRD.out.1 hpo (hwk.ext x.h))
    rw [HBC.out] at hcb
    have hgb := fun x : ExtW W7 => ExtW.call (isGood03 _ X (some ⟨G, 0, none⟩) bl cap x.w (hv7 x) HRD.out.1 hpo (hwk.ext x.h))
    rw [show decide (firstBad X bl < 0) = true from by simpa using HBG.out] at hgb
    have HCB := Lib.hid hcb
    have HGB := Lib.hid hgb
    have HIB := Lib.hid (fun x : ExtW W7 => ExtW.call (RetE.bt hpo (IsPlan03 _ X (some ⟨G, 0, none⟩) bl cap x.w (hv7 x) (by omega) (by omega) (fun y hy => by have := hmd.2 y hy; omega) (hwk.ext x.h))))
    have HWK := Lib.hid (fun x : ExtW W7 => ExtW.call (works03 x.w))
    have HEW := Lib.hid hEw
    have hbl6 := hmd.1
    obtain ⟨cn, hcn⟩ : ∃ n, n = cntN l l.length := ⟨_, rfl⟩
    obtain ⟨cr, hcr⟩ : ∃ n, n = cntR l l.length := ⟨_, rfl⟩
    obtain ⟨cc, hcc⟩ : ∃ n, n = costPl X l l.length := ⟨_, rfl⟩
    rw [← hcn, ← hcr] at HCO
    rw [← hcc] at HCS
    have HLE2 : gd = true → m ≤ cc ∧ a ≤ cn ∧ b ≤ cr := fun h => by
      rw [HGDD.out] at h
      rw [hcn, hcr, hcc]
      exact HLE.out (by simpa using h)
    have HLE2 := Lib.hid HLE2
    obtain ⟨hm0, hm1⟩ := hm
    obtain ⟨ha0, ha1⟩ := ha
    obtain ⟨hb0, hb1⟩ := hb2
    clear hpo hmd hnf hbp hEx hEw hv7 hcb hgb hwk hE7 q0 q1 q2 q3 q4 q5 HGDD HLE HBG HBC HPN HGD HCH HND HRS HR2 HF2 HI2 hcn hcr hcc hbl hE
    obtain ⟨y0, hy0⟩ := ExtW.of (Ext.refl W7)
    conv => arg 5; rw [hy0]
    clear hy0 x0 x1 x3 x4 x5 x6 x7 x8
    cases gd with
    | false =>
      clear HLE2
      go_wp2_with (first
        | (go_at_call 15; refine (HFB.out _).mono ?_; rintro e w' ⟨rfl, x3, rfl⟩)
        | (go_at_call 33; refine (HIB.out _).mono ?_; rintro e w' ⟨rfl, x4, rfl⟩)
        | (go_at_call 35; refine (HGB.out _).mono ?_; rintro e w' ⟨rfl, x5, rfl⟩)
        | (go_at_call 37; refine (HKN0.out _).mono ?_; rintro e w' ⟨rfl, x10, rfl⟩)
        | (go_at_call 43; refine (HCO.out _).mono ?_; rintro e w' ⟨rfl, x11, rfl⟩)
        | (go_at_call 48; refine (HCB.out _).mono ?_; rintro e w' ⟨rfl, x12, rfl⟩)
        | (go_at_call 16; refine (HWK.out _).mono ?_; rintro e w' ⟨rfl, x2, rfl⟩))
      all_goals
        first
        | (go_ret; exact RetE.fin (HEW.out.trans x2.h) rfl)
        | (exfalso; omega)
    | true =>
      obtain ⟨hle1, hle2, hle3⟩ := HLE2.out rfl
      have hn1 : ¬cc < m := by omega
      have hn2 : ¬cn < a := by omega
      have hn3 : ¬cr < b := by omega
      go_upto_region 15 with (first
        | (go_at_call 15; refine (HFB.out _).mono ?_; rintro e w' ⟨rfl, x3, rfl⟩)
        | (go_at_call 33; refine (HIB.out _).mono ?_; rintro e w' ⟨rfl, x4, rfl⟩)
        | (go_at_call 37; refine (HKN0.out _).mono ?_; rintro e w' ⟨rfl, x10, rfl⟩)
        | (go_at_call 43; refine (HCO.out _).mono ?_; rintro e w' ⟨rfl, x11, rfl⟩)
        | (go_at_call 48; refine (HCS.out _).mono ?_; rintro e w' ⟨rfl, x12, rfl⟩))
      all_goals first
        | (exfalso; omega)
        | (go_wp2_with (first
            | (go_at_call 35; refine (HGB.out _).mono ?_; rintro e w' ⟨rfl, x5, rfl⟩)
            | (go_at_call 48; refine (HCB.out _).mono ?_; rintro e w' ⟨rfl, x12, rfl⟩)
            | (go_at_call 16; refine (HWK.out _).mono ?_; rintro e w' ⟨rfl, x2, rfl⟩))
           go_ret
           exact RetE.fin (HEW.out.trans x2.h) rfl)
end Go.Proofs.Ytkcilgjkdiopnaa
