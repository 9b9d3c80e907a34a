/- The walk of MetersFewest. -/
import Derived.Test.YtimelbcfaniifaaDoorQ8f
import Derived.Test.YtimelbcfaniifaaDoorQ8g
namespace Go.Proofs.YtimelbcfaniifaaDoor
open Go.RowKit

theorem few_any (M : Mt) (v : Value) (w : World) (hv : MtV w v M) (h1 : M.weeks.length ≤ 1000) (h2 : M.reads.length ≤ 1000) :
    Calls Tryd.prog 28 #[v] w (RetE (fewV04 M) w) := by
  refine (Fewest04 M v w hv h1 h2).mono ?_
  rintro e w' ⟨⟨a, b, rfl, h⟩, hE⟩
  refine ⟨?_, hE⟩
  unfold fewV04
  rcases h with ⟨hM, ha, hb⟩ | ⟨hM, ha, hb⟩
  · rw [chkM_t hM, if_pos rfl, ha, hb]
  · rw [chkM_f hM, if_neg (by decide), ha, hb]

set_option maxRecDepth 20000 in
set_option maxHeartbeats 16000000 in
theorem MetersFewest04 (v : Value) (M : Mt) (w : World) (hv : MtV w v M) (hT : TabW w) :
    Calls Tryd.prog 9 #[v] w (RetE (.bool true) w) := by
  have HV := Lib.hid hv
  have HT := Lib.hid hT
  obtain ⟨p, c, qq, d, rfl, hp, hq⟩ := hv
  clear hp hq hT
  go_enter Tryd.func9, Tryd.ntmps9
  go_upto_region 1 with (fail)
  obtain ⟨s0, hs0⟩ : ∃ s0, s0 = w.heap.size := ⟨_, rfl⟩
  obtain ⟨W, hW⟩ : ∃ W, W = w.alloc (.cells #[.slice p M.weeks.length c, .slice qq M.reads.length d, .int .i64 M.wrong] 25) := ⟨_, rfl⟩
  have m0 : W.heap[s0]? = some (.cells #[.slice p M.weeks.length c, .slice qq M.reads.length d, .int .i64 M.wrong] 25) := by rw [hs0]; exact heap_at0 (by rw [hW]; exact (by repeat (first | exact Ext.refl _ | assumption | refine Ext.drewN ?_ _ | refine Ext.drew ?_ | refine Ext.alloc ?_ _)))
  have hE : Ext w W := by rw [hW]; exact (by repeat (first | exact Ext.refl _ | assumption | refine Ext.drewN ?_ _ | refine Ext.drew ?_ | refine Ext.alloc ?_ _))
  rw [← hs0, ← hW]
  have a0 := ExtW.cell (v := .slice p M.weeks.length c) (cell_of_heap m0 0)
  have a1 := ExtW.cell (v := .slice qq M.reads.length d) (cell_of_heap m0 1)
  have a2 := ExtW.cell (v := .int .i64 M.wrong) (cell_of_heap m0 2)
  have HM0 := Lib.hid m0
  have HE := Lib.hid hE
  have HS0 := Lib.hid hs0
  have HWK := Lib.hid (fun x : ExtW W => ExtW.callX (x := x) (works04 x.w (HT.out.ext (HE.out.trans x.h))))
  have HFA := Lib.hid (fun x : ExtW W => ExtW.callX (x := x) (Far04 M _ x.w (HV.out.ext (HE.out.trans x.h))))
  obtain ⟨y0, hy0⟩ := ExtW.of (Ext.refl W)
  clear hW m0 hE hs0
  conv => arg 5; rw [hy0]
  clear hy0
  obtain ⟨fb, hfb⟩ : ∃ b, farB M = b := ⟨_, rfl⟩
  rw [hfb] at HFA
  have HFB := Lib.hid hfb
  clear hfb
  cases fb
  case true =>
    go_wp2_with (first | (go_at_call 22; refine (HFA.out _).mono ?_; rintro e w2 ⟨rfl, xr, rfl, -⟩) | (go_at_call 16; refine (HWK.out _).mono ?_; rintro e w2 ⟨rfl, xw, rfl, -⟩))
    go_ret
    exact RetE.fin (HE.out.trans xw.h) rfl
  have hl := far_len HFB.out
  obtain ⟨hl1, hl2⟩ := hl
  go_wp2_with (go_at_call 22; refine (HFA.out _).mono ?_; rintro e w2 ⟨rfl, xr, rfl, -⟩)
  refine (Copy04 M _ xr.w (HV.out.ext (HE.out.trans xr.h)) (by omega) (by omega)).mono ?_
  rintro e w2 ⟨u, rfl, hE2, hMO⟩
  have hMV := hMO.mt
  obtain ⟨r1, c1, r2, c2, rfl, hw1, hw2⟩ := hMV
  clear hw1 hw2
  have hEw2 : Ext W w2 := xr.h.trans hE2
  go_upto_region 4 with (fail)
  obtain ⟨s7, hs7⟩ : ∃ s7, s7 = w2.heap.size := ⟨_, rfl⟩
  obtain ⟨W3, hW3⟩ : ∃ W3, W3 = w2.alloc (.cells #[.slice r1 M.weeks.length c1, .slice r2 M.reads.length c2, .int .i64 M.wrong] 25) := ⟨_, rfl⟩
  have hE3 : Ext W W3 := by rw [hW3]; exact hEw2.alloc _
  have m7 : W3.heap[s7]? = some (.cells #[.slice r1 M.weeks.length c1, .slice r2 M.reads.length c2, .int .i64 M.wrong] 25) := by rw [hW3, hs7]; exact heap_new _ _
  have hMV3 := (hMO.ext (show Ext w2 W3 by rw [hW3]; exact Ext.alloc (Ext.refl _) _)).mt
  rw [← hs7, ← hW3]
  have HE3 := Lib.hid (HE.out.trans hE3)
  have HVO := Lib.hid (fun y (h : Ext W3 y) => hMV3.ext h)
  have HVM3 := Lib.hid (fun y (h : Ext W3 y) => HV.out.ext (HE3.out.trans h))
  have HTY := Lib.hid (fun y (h : Ext W3 y) => HT.out.ext (HE3.out.trans h))
  have q0 := heap_ext3 HM0.out hE3
  have a0 := ExtW.cell (v := .slice p M.weeks.length c) (cell_of_heap q0 0)
  have a1 := ExtW.cell (v := .slice qq M.reads.length d) (cell_of_heap q0 1)
  have a2 := ExtW.cell (v := .int .i64 M.wrong) (cell_of_heap q0 2)
  have o0 := ExtW.cell (v := .slice r1 M.weeks.length c1) (cell_of_heap m7 0)
  have o1 := ExtW.cell (v := .slice r2 M.reads.length c2) (cell_of_heap m7 1)
  have o2 := ExtW.cell (v := .int .i64 M.wrong) (cell_of_heap m7 2)
  have HQ0 := Lib.hid q0
  have HM7 := Lib.hid m7
  have HWK := Lib.hid (fun x : ExtW W3 => ExtW.callX (x := x) (works04 x.w (HTY.out x.w x.h)))
  have HSA := Lib.hid (fun x : ExtW W3 => ExtW.callX (x := x) (same04 M (by omega) (by omega) _ _ x.w (HVO.out x.w x.h) (HVM3.out x.w x.h)))
  have HC1 := Lib.hid (fun x : ExtW W3 => ExtW.call (x := x) (Check04 M _ x.w (HVO.out x.w x.h) (by omega) (by omega)))
  have HC2 := Lib.hid (fun x : ExtW W3 => ExtW.call (x := x) (rCheck04 M _ x.w (HVM3.out x.w x.h) (by omega) (by omega)))
  have HF1 := Lib.hid (fun x : ExtW W3 => ExtW.callX (x := x) (few_any M _ x.w (HVO.out x.w x.h) (by omega) (by omega)))
  have HF2 := Lib.hid (fun x : ExtW W3 => ExtW.callX (x := x) (rFewest04 M HFB.out _ x.w (HVM3.out x.w x.h)))
  have HG1 := Lib.hid (fun x : ExtW W3 => ExtW.callL (l := strangeA M) (n := askV M true) (x := x) (Strange04 M _ x.w (HVO.out x.w x.h) (by omega) (by omega)))
  have HG2 := Lib.hid (fun x : ExtW W3 => ExtW.callL (l := strangeA M) (n := askV M true) (x := x) (rStrange04 M HFB.out _ x.w (HVM3.out x.w x.h)))
  have HG3 := Lib.hid (fun x : ExtW W3 => ExtW.callL (l := sureA M) (n := askV M true) (x := x) (Sure04 M _ x.w (HVO.out x.w x.h) (by omega) (by omega)))
  have HG4 := Lib.hid (fun x : ExtW W3 => ExtW.callL (l := sureA M) (n := askV M true) (x := x) (rSure04 M HFB.out _ x.w (HVM3.out x.w x.h)))
  obtain ⟨z, hz⟩ : ∃ z, z = chkM M := ⟨_, rfl⟩
  obtain ⟨A, hA⟩ : ∃ a, fewV04 M = .tuple #[.int .i64 a, .int .i64 (chkM M)] := ⟨_, rfl⟩
  rw [hA] at HF1 HF2
  rw [← hz] at HC1 HC2 HF1 HF2
  obtain ⟨b, hb⟩ : ∃ z, z = askV M true := ⟨_, rfl⟩
  have hl3 := strangeA_len M
  have hl4 := sureA_len M
  obtain ⟨l3, hl3'⟩ : ∃ z, z = strangeA M := ⟨_, rfl⟩
  obtain ⟨l4, hl4'⟩ : ∃ z, z = sureA M := ⟨_, rfl⟩
  rw [← hl3', ← hb] at HG1 HG2
  rw [← hl4', ← hb] at HG3 HG4
  rw [← hl3'] at hl3
  rw [← hl4'] at hl4
  clear hz hA hb hl3' hl4'
  obtain ⟨z0, hz0⟩ := ExtW.of (Ext.refl W3)
  clear hW3 hs7 hE3 m7 hMV3 hMO hE2 hEw2 q0
  conv => arg 5; rw [hz0]
  clear hz0
  refine wp_region_extW (by kernel_rfl) (by kernel_rfl) ?_
  repeat (go_big_quiet_step (first
    | (go_at_call 35; exact HC1.out _)
    | (go_at_call 36; exact HC2.out _)))
  refine wpQuiet_nil ?_
  rintro _ ⟨z1, rfl⟩
  go_upto_region 8 with (first
    | (go_at_call 28; refine (HF1.out _).mono ?_; rintro e w2 ⟨rfl, z2, rfl, -⟩)
    | (go_at_call 37; refine (HF2.out _).mono ?_; rintro e w2 ⟨rfl, z3, rfl, -⟩))
  go_upto_region 9 with (go_at_call 38; refine (HG1.out _).mono ?_; rintro e w2 ⟨p3, cp3, rfl, z4, rfl, hE4, hI3, -⟩)
  have HI3 := Lib.hid hI3
  clear hE4 hI3
  go_upto_region 10 with (go_at_call 39; refine (HG2.out _).mono ?_; rintro e w2 ⟨p4, cp4, rfl, z5, rfl, hE5, hI4, -⟩)
  have HS1 := Lib.hid (fun y (h : Ext z5.w y) => (⟨HI3.out.ext (hE5.trans h), hI4.ext h⟩ : IntsAt y p3 l3 ∧ IntsAt y p4 l3))
  clear hE5 hI4
  go_upto_region 11 with (go_at_call 40; refine (HG3.out _).mono ?_; rintro e w2 ⟨p5, cp5, rfl, z6, rfl, hE6, hI5, -⟩)
  have HI5 := Lib.hid hI5
  have HE6 := Lib.hid hE6
  clear hE6 hI5
  go_upto_region 12 with (go_at_call 41; refine (HG4.out _).mono ?_; rintro e w2 ⟨p6, cp6, rfl, z7, rfl, hE7, hI6, -⟩)
  have HS2 := Lib.hid (fun y (h : Ext z7.w y) => (⟨HI5.out.ext (hE7.trans h), hI6.ext h⟩ : IntsAt y p5 l4 ∧ IntsAt y p6 l4))
  have HSX := Lib.hid (sameX (x := z7) (c := cp3) (d := cp4) (by omega) (HS1.out _ (HE6.out.trans hE7)).1 (HS1.out _ (HE6.out.trans hE7)).2)
  clear hE7 hI6
  go_wp2_with (first
    | (go_at_call 19; refine HSY.out.mono ?_; rintro e w2 ⟨rfl, z9, rfl, -⟩; clear HSY)
    | (go_at_call 19; refine HSX.out.mono ?_; rintro e w2 ⟨rfl, z8, rfl, hE8⟩; have HSY := Lib.hid (sameX (x := z8) (c := cp5) (d := cp6) (by omega) (HS2.out _ hE8).1 (HS2.out _ hE8).2); clear HSX)
    | (go_at_call 26; refine (HSA.out _).mono ?_; rintro e w2 ⟨rfl, xs, rfl, -⟩)
    | (go_at_call 16; refine (HWK.out _).mono ?_; rintro e w2 ⟨rfl, xw, rfl, -⟩))
  go_ret
  exact RetE.fin (HE3.out.trans xw.h) rfl
end Go.Proofs.YtimelbcfaniifaaDoor
