/- The walk of WearMore. -/
import Derived.Test.YtkcilgjkdiopnaaE03e
import Derived.Test.YtkcilgjkdiopnaaWAges
namespace Go.Proofs.Ytkcilgjkdiopnaa
open Go.RowKit

theorem modestP {X : Wr} (hX : ValidW X) {l : List Wk} (hP : PlanOK X l) : l.length ≤ 6 ∧ ∀ x ∈ l, x.recs.length ≤ 6 := by
  refine ⟨by have := hP.1; have := hX.weeks; omega, fun x hx => ?_⟩
  have h1 := (hP.2 x hx).1
  have h4 := hX.recs
  apply Classical.byContradiction
  intro hn
  have h5 : ∀ i (hi : i < x.recs.length), (i : Int) ≤ x.recs[i] := by
    intro i
    induction i with
    | zero => intro hi; exact (h1.1 0 hi).1
    | succ j ih => intro hi; have := ih (by omega); have := h1.2 j hi; omega
  have := h5 5 (by omega)
  have := (h1.1 5 (by omega)).2
  omega
/-- Run of a plan of a valid box, read as numbers -/
theorem Run03x {W : World} (x : ExtW W) (v : Value) (X : Wr) (pp : Option Addr) (l : List Wk) (pc : Nat) (hv : WrV x.w v X) (hX : ValidW X) (hP : PlanOK X l) (h : WksAt x.w pp l) :
    Calls Try.prog 21 #[v, .slice pp l.length pc] x.w (fun e w' => ∃ y : ExtW W, w' = y.w ∧ Ext x.w y.w ∧ ∃ u uc, e = .returned (.tuple #[.slice u X.recs.length uc, .int .i64 (runTo X l l.length).age, .int .i64 (runTo X l l.length).cost, .int .i64 0]) ∧ IntsAt y.w u (wornL X.recs.length (runTo X l l.length).worn)) := by
  obtain ⟨m1, m2⟩ := modestP hX hP
  refine (Run03 v X pp l pc x.w hv (modest_valid hX) (by omega) (fun y hy => by have := m2 y hy; omega) h).mono ?_
  rintro e w' ⟨hE2, (⟨hx1, hx2, ⟨u, rfl, hu⟩⟩ | ⟨hx1, hx2, rfl⟩ | ⟨hx1, rfl⟩)⟩
  · obtain ⟨u', c', rfl, hu⟩ := hu
    refine ⟨⟨w', x.h.trans hE2⟩, rfl, hE2, u', c', ?_, hu⟩
    rw [wornL_len]
  · exact absurd hP hx2
  · exact absurd hX hx1

set_option maxRecDepth 20000 in
set_option maxHeartbeats 4000000 in
theorem WearMore03 (v : Value) (X : Wr) (pp : Option Addr) (l : List Wk) (pc : Nat) (week what : Int) (w : World) (hv : WrV w v X) (hM : BigW X) (h : WksAt w pp l) (hP : BigP l) :
    Calls Try.prog 5 #[v, .slice pp l.length pc, .agg #[.int .i64 week, .int .i64 what]] w (RetE (.bool true) w) := by
  have HV := Lib.hid hv
  have HP := Lib.hid hP
  have HB := Lib.hid hM
  have m2 := hM.recs
  have ml := hP.len
  obtain ⟨p, c, q, d, rfl, h1, h2⟩ := hv
  clear hM hP h1 h2
  go_enter Try.func5, Try.ntmps5
  go_upto_region 1 with (fail)
  have hg0 := heap_new1 w (.cells (wrCells X p c q d) 25) (.cells #[.int .i64 week, .int .i64 what] 47)
  have hg1 := heap_new2 w (.cells (wrCells X p c q d) 25) (.cells #[.int .i64 week, .int .i64 what] 47)
  unfold wrCells at hg0 hg1
  obtain ⟨W, hW⟩ : ∃ W, W = (w.alloc (.cells #[.int .i64 X.weeks, .int .i64 X.price, .int .i64 X.age, .int .i64 X.step, .slice p X.rough.length c, .slice q X.recs.length d] 25)).alloc (.cells #[.int .i64 week, .int .i64 what] 47) := ⟨_, rfl⟩
  have hE : Ext w W := by rw [hW]; exact Ext.alloc (Ext.alloc (Ext.refl w) _) _
  rw [← hW] at hg0 hg1 ⊢
  have q0 := ExtW.cell (v := .int .i64 X.weeks) (cell_of_heap hg0 0)
  have q1 := ExtW.cell (v := .int .i64 X.price) (cell_of_heap hg0 1)
  have q2 := ExtW.cell (v := .int .i64 X.age) (cell_of_heap hg0 2)
  have q3 := ExtW.cell (v := .int .i64 X.step) (cell_of_heap hg0 3)
  have q4 := ExtW.cell (v := .slice p X.rough.length c) (cell_of_heap hg0 4)
  have q5 := ExtW.cell (v := .slice q X.recs.length d) (cell_of_heap hg0 5)
  have m0 := ExtW.cell (v := .int .i64 week) (cell_of_heap hg1 0)
  have m1 := ExtW.cell (v := .int .i64 what) (cell_of_heap hg1 1)
  have HWK := Lib.hid (fun x : ExtW W => ExtW.call (works03 x.w))
  have HR := fun x : ExtW W => ready03 _ X x.w (WrV.mono _ _ _ _ (hE.trans x.h) HV.out) HB.out
  have HF := fun x : ExtW W => farPlan03 pp l pc x.w (h.ext (hE.trans x.h)) HP.out
  have HPL := Lib.hid (h.ext hE)
  obtain ⟨x0, hx0⟩ := ExtW.of (Ext.refl W)
  clear hW hg0 hg1 h
  conv => arg 5; rw [hx0]
  clear hx0
  by_cases hR : ReadyW X
  case neg =>
    have HR2 := Lib.hid (fun x : ExtW W => ExtW.call (RetE.bf hR (HR x)))
    clear HR HF hR
    go_wp2_with (first | (go_at_call 32; refine (HR2.out _).mono ?_; rintro e w' ⟨rfl, x1, rfl⟩) | (go_at_call 16; refine (HWK.out _).mono ?_; rintro e w' ⟨rfl, x2, rfl⟩))
    go_ret
    exact RetE.fin (hE.trans x2.h) rfl
  have HR2 := Lib.hid (fun x : ExtW W => ExtW.call (RetE.bt hR (HR x)))
  have HRD := Lib.hid hR
  clear HR hR
  by_cases hF : FarP l
  case pos =>
    have HF2 := Lib.hid (fun x : ExtW W => ExtW.call (RetE.bt hF (HF x)))
    clear HF hF
    go_wp2_with (first | (go_at_call 32; refine (HR2.out _).mono ?_; rintro e w' ⟨rfl, x1, rfl⟩) | (go_at_call 15; refine (HF2.out _).mono ?_; rintro e w' ⟨rfl, x3, rfl⟩) | (go_at_call 16; refine (HWK.out _).mono ?_; rintro e w' ⟨rfl, x2, rfl⟩))
    go_ret
    exact RetE.fin (hE.trans x2.h) rfl
  have HF2 := Lib.hid (fun x : ExtW W => ExtW.call (RetE.bf hF (HF x)))
  obtain ⟨hl40, hr40⟩ := not_farP hF
  have hrl := HRD.out.1.recs
  have HI := fun x : ExtW W => IsPlan03 _ X pp l pc x.w (WrV.mono _ _ _ _ (hE.trans x.h) HV.out) (by omega) (by omega) (fun y hy => by have := hr40 y hy; omega) (HPL.out.ext x.h)
  have HR40 := Lib.hid hr40
  clear HF hF hr40
  by_cases hI : PlanOK X l
  case neg =>
    have HI2 := Lib.hid (fun x : ExtW W => ExtW.call (RetE.bf hI (HI x)))
    clear HI hI
    go_wp2_with (first | (go_at_call 32; refine (HR2.out _).mono ?_; rintro e w' ⟨rfl, x1, rfl⟩) | (go_at_call 15; refine (HF2.out _).mono ?_; rintro e w' ⟨rfl, x3, rfl⟩) | (go_at_call 33; refine (HI2.out _).mono ?_; rintro e w' ⟨rfl, x4, rfl⟩) | (go_at_call 16; refine (HWK.out _).mono ?_; rintro e w' ⟨rfl, x2, rfl⟩))
    go_ret
    exact RetE.fin (hE.trans x2.h) rfl
  have HI2 := Lib.hid (fun x : ExtW W => ExtW.call (RetE.bt hI (HI x)))
  have HOK := Lib.hid hI
  clear HI hI
  go_upto_region 3 with (first | (go_at_call 32; refine (HR2.out _).mono ?_; rintro e w' ⟨rfl, x1, rfl⟩) | (go_at_call 15; refine (HF2.out _).mono ?_; rintro e w' ⟨rfl, x3, rfl⟩) | (go_at_call 33; refine (HI2.out _).mono ?_; rintro e w' ⟨rfl, x4, rfl⟩))
  have HWi := Lib.hid (with03 (.agg #[.int .i64 X.weeks, .int .i64 X.price, .int .i64 X.age, .int .i64 X.step, .slice p X.rough.length c, .slice q X.recs.length d]) X pp l pc week what x4.w (WrV.mono _ _ _ _ (hE.trans x4.h) HV.out) hrl hl40 HR40.out (HPL.out.ext x4.h))
  obtain ⟨L2, hL2⟩ : ∃ L2, L2 = withL X.recs.length l week what := ⟨_, rfl⟩
  have hok2 : PlanOK X L2 := by rw [hL2]; exact with_ok HOK.out week what
  have hle : ∀ k, LeSt (runTo X L2 k) (runTo X l k) := by rw [hL2]; exact le_run HRD.out.1 HOK.out (with_ge HRD.out.1 HOK.out week what)
  have hlen2 : L2.length = l.length := by rw [hL2]; exact withL_len _ _ _ _
  have hgm := good_mono hlen2 hle
  rw [← hL2] at HWi
  have HOK2 := Lib.hid hok2
  have HLE := Lib.hid (hle l.length)
  have HLN := Lib.hid hlen2
  have HGM := Lib.hid hgm
  clear hL2 hok2 hle hlen2 hgm HR2 HF2 HI2 x0 x1 x3
  go_upto_region 4 with (go_at_call 34; refine HWi.out.mono ?_; rintro e W5 ⟨u, rfl, hE5, hp5⟩; obtain ⟨qp, cp, rfl, hk5⟩ := hp5.wks; clear hp5)
  have hE45 := x4.h.trans hE5
  have r0 := ExtW.cell (q0 ⟨W5, hE45⟩)
  have r1 := ExtW.cell (q1 ⟨W5, hE45⟩)
  have r2 := ExtW.cell (q2 ⟨W5, hE45⟩)
  have r3 := ExtW.cell (q3 ⟨W5, hE45⟩)
  have r4 := ExtW.cell (q4 ⟨W5, hE45⟩)
  have r5 := ExtW.cell (q5 ⟨W5, hE45⟩)
  simp only at r0 r1 r2 r3 r4 r5
  have hEw := hE.trans hE45
  have hv5 := WrV.mono _ _ _ _ hEw HV.out
  have hpl5 := HPL.out.ext hE45
  clear q0 q1 q2 q3 q4 q5 m0 m1 HWK HPL HV hE5 hE45 HWi hE x4 HR40
  have HG1 := Lib.hid (fun x : ExtW W5 => ExtW.call (isGood03 _ X pp l pc x.w (WrV.mono _ _ _ _ x.h hv5) HRD.out.1 HOK.out (hpl5.ext x.h)))
  have HG2 := Lib.hid (fun x : ExtW W5 => ExtW.call (isGood03 _ X qp L2 cp x.w (WrV.mono _ _ _ _ x.h hv5) HRD.out.1 HOK2.out (hk5.ext x.h)))
  have HA1 := Lib.hid (fun x : ExtW W5 => Run03x x _ X pp l pc (WrV.mono _ _ _ _ x.h hv5) HRD.out.1 HOK.out (hpl5.ext x.h))
  have HA2 := Lib.hid (fun x : ExtW W5 => Run03x x _ X qp L2 cp (WrV.mono _ _ _ _ x.h hv5) HRD.out.1 HOK2.out (hk5.ext x.h))
  have HEW := Lib.hid hEw
  clear hv5 hpl5 hk5 hEw
  rw [HLN.out] at HG2 HA2 ⊢
  obtain ⟨x0, hx0⟩ := ExtW.of (Ext.refl W5)
  conv => arg 5; rw [hx0]
  clear hx0
  obtain ⟨b1, hb1⟩ : ∃ b1 : Bool, b1 = decide (firstBad X l < 0) := ⟨_, rfl⟩
  obtain ⟨b2, hb2⟩ : ∃ b2 : Bool, b2 = decide (firstBad X L2 < 0) := ⟨_, rfl⟩
  obtain ⟨S1, hS1⟩ : ∃ S1, S1 = runTo X l l.length := ⟨_, rfl⟩
  obtain ⟨S2, hS2⟩ : ∃ S2, S2 = runTo X L2 l.length := ⟨_, rfl⟩
  rw [← hb1] at HG1
  rw [← hb2] at HG2
  rw [← hS1] at HA1 HLE
  rw [← hS2] at HA2 HLE
  have hbb : b1 = true → b2 = true := by
    rw [hb1, hb2]
    simpa using HGM.out
  have HBB := Lib.hid hbb
  clear hb1 hb2 hS1 hS2 hbb HGM
  go_upto_region 8 with (first
    | (go_at_call_of 35 (Value.slice pp l.length pc); refine (HG1.out _).mono ?_; rintro e w' ⟨rfl, x6, rfl⟩)
    | (go_at_call_of 35 (Value.slice qp l.length cp); refine (HG2.out _).mono ?_; rintro e w' ⟨rfl, x7, rfl⟩)
    | (go_at_call_of 21 (Value.slice pp l.length pc); refine (HA1.out _).mono ?_; rintro e w' ⟨x8, rfl, hE8, u1, c1, rfl, hu1⟩)
    | (go_at_call_of 21 (Value.slice qp l.length cp); refine (HA2.out _).mono ?_; rintro e w' ⟨x9, rfl, hE9, u2, c2, rfl, hu2⟩))
  have hu1' := hu1.ext hE9
  have HU1 := Lib.hid hu1'
  have HU2 := Lib.hid hu2
  have s5 := ExtW.cell (r5 x9)
  have HWK9 := Lib.hid (fun x : ExtW x9.w => ExtW.call (works03 x.w))
  have HE9 := Lib.hid (HEW.out.trans x9.h)
  obtain ⟨W9, hW9⟩ : ∃ W9, W9 = x9.w := ⟨_, rfl⟩
  rw [← hW9] at HU1 HU2 s5 HWK9 HE9 ⊢
  clear hu1 hu1' hu2 hE8 hE9 hW9 r0 r1 r2 r3 r4 r5 HG1 HG2 HA1 HA2
  obtain ⟨y0, hy0⟩ := ExtW.of (Ext.refl W9)
  conv => arg 5; rw [hy0]
  clear hy0
  have hla := HLE.out.age.2
  have hlc := HLE.out.cost
  have hn1 : ¬S1.age < S2.age := by omega
  have hn2 : ¬S2.cost < S1.cost := by omega
  clear hla hlc
  cases b1 with
  | false =>
    go_wp2
    go_loopw [20] (fun i wr => ∃ k : Nat, k ≤ X.recs.length ∧ i = .int .i64 k ∧ ∃ z : ExtW W9, wr = z.w) (fun i _ => X.recs.length - (intOf i).toNat)
    case atStart => exact ⟨0, by omega, rfl, y0, rfl⟩
    case round =>
      clear y0
      obtain ⟨k, hk, rfl, z, rfl⟩ := hrel
      by_cases hlt : k < X.recs.length
      · obtain ⟨b3, o3, rfl, hc3⟩ := HU1.out.at k (by rw [wornL_len]; exact hlt)
        obtain ⟨b4, o4, rfl, hc4⟩ := HU2.out.at k (by rw [wornL_len]; exact hlt)
        rw [show (wornL X.recs.length S1.worn)[k]'(by rw [wornL_len]; exact hlt) = S1.worn k from by simp [wornL]] at hc3
        rw [show (wornL X.recs.length S2.worn)[k]'(by rw [wornL_len]; exact hlt) = S2.worn k from by simp [wornL]] at hc4
        have e3 := ExtW.cell hc3
        have e4 := ExtW.cell hc4
        have hwn : ¬S1.worn k < S2.worn k := by have := HLE.out.worn k; omega
        clear hc3 hc4
        go_upto_region 13 with (fail)
        refine wp_region_extW (by kernel_rfl) (by kernel_rfl) ?_
        repeat (go_big_quiet_step (fail))
        refine wpQuiet_nil ?_
        rintro _ ⟨z2, rfl⟩
        go_wp2
        go_roundw
        case rel => exact ⟨k + 1, by omega, by go_num, z2, rfl⟩
        case measure => simp [intOf]; omega
      · go_wp2_with (go_at_call 16; refine (HWK9.out _).mono ?_; rintro e w' ⟨rfl, z2, rfl⟩)
        go_ret
        exact RetE.fin (HE9.out.trans z2.h) rfl
  | true =>
    obtain rfl := HBB.out rfl
    go_wp2
    go_loopw [20] (fun i wr => ∃ k : Nat, k ≤ X.recs.length ∧ i = .int .i64 k ∧ ∃ z : ExtW W9, wr = z.w) (fun i _ => X.recs.length - (intOf i).toNat)
    case atStart => exact ⟨0, by omega, rfl, y0, rfl⟩
    case round =>
      clear y0
      obtain ⟨k, hk, rfl, z, rfl⟩ := hrel
      by_cases hlt : k < X.recs.length
      · obtain ⟨b3, o3, rfl, hc3⟩ := HU1.out.at k (by rw [wornL_len]; exact hlt)
        obtain ⟨b4, o4, rfl, hc4⟩ := HU2.out.at k (by rw [wornL_len]; exact hlt)
        rw [show (wornL X.recs.length S1.worn)[k]'(by rw [wornL_len]; exact hlt) = S1.worn k from by simp [wornL]] at hc3
        rw [show (wornL X.recs.length S2.worn)[k]'(by rw [wornL_len]; exact hlt) = S2.worn k from by simp [wornL]] at hc4
        have e3 := ExtW.cell hc3
        have e4 := ExtW.cell hc4
        have hwn : ¬S1.worn k < S2.worn k := by have := HLE.out.worn k; omega
        clear hc3 hc4
        go_upto_region 13 with (fail)
        refine wp_region_extW (by kernel_rfl) (by kernel_rfl) ?_
        repeat (go_big_quiet_step (fail))
        refine wpQuiet_nil ?_
        rintro _ ⟨z2, rfl⟩
        go_wp2
        go_roundw
        case rel => exact ⟨k + 1, by omega, by go_num, z2, rfl⟩
        case measure => simp [intOf]; omega
      · go_wp2_with (go_at_call 16; refine (HWK9.out _).mono ?_; rintro e w' ⟨rfl, z2, rfl⟩)
        go_ret
        exact RetE.fin (HE9.out.trans z2.h) rfl
end Go.Proofs.Ytkcilgjkdiopnaa
