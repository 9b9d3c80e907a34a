/- The walk of WearAges. -/
import Derived.Test.YtkcilgjkdiopnaaE03d
import Derived.Deep.RegionWith
namespace Go.Proofs.Ytkcilgjkdiopnaa
open Go.RowKit

theorem not_farP {l : List Wk} (h : ¬FarP l) : l.length ≤ 40 ∧ ∀ x ∈ l, x.recs.length ≤ 40 := by
  simp only [FarP, not_or, not_exists, not_and] at h
  exact ⟨by omega, fun x hx => by have := h.2 x hx; omega⟩

set_option maxRecDepth 20000 in
set_option maxHeartbeats 4000000 in
theorem WearAges03 (v : Value) (X : Wr) (pp : Option Addr) (l : List Wk) (pc : Nat) (w : World) (hv : WrV w v X) (hM : BigW X) (h : WksAt w pp l) (hP : BigP l) :
    Calls Try.prog 8 #[v, .slice pp l.length pc] w (RetE (.bool true) w) := by
  have HV := Lib.hid hv
  have HP := Lib.hid hP
  have HB := Lib.hid hM
  have m2 := hM.recs
  have ml := hP.len
  obtain ⟨p, c, q, d, rfl, h1, h2⟩ := hv
  clear hM hP
  go_enter Try.func8, Try.ntmps8
  go_upto_region 1 with (fail)
  have hn := heap_new w (.cells (wrCells X p c q d) 25)
  unfold wrCells at hn
  obtain ⟨W, hW⟩ : ∃ W, W = w.alloc (.cells #[.int .i64 X.weeks, .int .i64 X.price, .int .i64 X.age, .int .i64 X.step, .slice p X.rough.length c, .slice q X.recs.length d] 25) := ⟨_, rfl⟩
  have hE : Ext w W := by rw [hW]; exact Ext.alloc (Ext.refl w) _
  rw [← hW] at hn ⊢
  have q0 := ExtW.cell (v := .int .i64 X.weeks) (cell_of_heap hn 0)
  have q1 := ExtW.cell (v := .int .i64 X.price) (cell_of_heap hn 1)
  have q2 := ExtW.cell (v := .int .i64 X.age) (cell_of_heap hn 2)
  have q3 := ExtW.cell (v := .int .i64 X.step) (cell_of_heap hn 3)
  have q4 := ExtW.cell (v := .slice p X.rough.length c) (cell_of_heap hn 4)
  have q5 := ExtW.cell (v := .slice q X.recs.length d) (cell_of_heap hn 5)
  have HWK := Lib.hid (fun x : ExtW W => ExtW.call (works03 x.w))
  have HR := fun x : ExtW W => ready03 _ X x.w (WrV.mono _ _ _ _ (hE.trans x.h) HV.out) HB.out
  have HF := fun x : ExtW W => farPlan03 pp l pc x.w (h.ext (hE.trans x.h)) HP.out
  have HPL := Lib.hid (h.ext hE)
  have HRC := Lib.hid (h2.ext hE)
  obtain ⟨x0, hx0⟩ := ExtW.of (Ext.refl W)
  clear hW hn h h1 h2
  conv => arg 5; rw [hx0]
  clear hx0
  by_cases hR : ReadyW X
  case neg =>
    have HR2 := Lib.hid (fun x : ExtW W => ExtW.call (RetE.bf hR (HR x)))
    clear HR HF hR
    go_wp2_with (first | (go_at_call 32; refine (HR2.out _).mono ?_; rintro e w' ⟨rfl, x1, rfl⟩) | (go_at_call 16; refine (HWK.out _).mono ?_; rintro e w' ⟨rfl, x2, rfl⟩))
    go_ret
    exact RetE.fin (hE.trans x2.h) rfl
  have HR2 := Lib.hid (fun x : ExtW W => ExtW.call (RetE.bt hR (HR x)))
  have HRD := Lib.hid hR
  clear HR hR
  by_cases hF : FarP l
  case pos =>
    have HF2 := Lib.hid (fun x : ExtW W => ExtW.call (RetE.bt hF (HF x)))
    clear HF hF
    go_wp2_with (first | (go_at_call 32; refine (HR2.out _).mono ?_; rintro e w' ⟨rfl, x1, rfl⟩) | (go_at_call 15; refine (HF2.out _).mono ?_; rintro e w' ⟨rfl, x3, rfl⟩) | (go_at_call 16; refine (HWK.out _).mono ?_; rintro e w' ⟨rfl, x2, rfl⟩))
    go_ret
    exact RetE.fin (hE.trans x2.h) rfl
  have HF2 := Lib.hid (fun x : ExtW W => ExtW.call (RetE.bf hF (HF x)))
  obtain ⟨hl40, hr40⟩ := not_farP hF
  have hrl := HRD.out.1.recs
  have HI := fun x : ExtW W => IsPlan03 _ X pp l pc x.w (WrV.mono _ _ _ _ (hE.trans x.h) HV.out) (by omega) (by omega) (fun y hy => by have := hr40 y hy; omega) (HPL.out.ext x.h)
  have HR40 := Lib.hid hr40
  clear HF hF hr40
  by_cases hI : PlanOK X l
  case neg =>
    have HI2 := Lib.hid (fun x : ExtW W => ExtW.call (RetE.bf hI (HI x)))
    clear HI hI
    go_wp2_with (first | (go_at_call 32; refine (HR2.out _).mono ?_; rintro e w' ⟨rfl, x1, rfl⟩) | (go_at_call 15; refine (HF2.out _).mono ?_; rintro e w' ⟨rfl, x3, rfl⟩) | (go_at_call 33; refine (HI2.out _).mono ?_; rintro e w' ⟨rfl, x4, rfl⟩) | (go_at_call 16; refine (HWK.out _).mono ?_; rintro e w' ⟨rfl, x2, rfl⟩))
    go_ret
    exact RetE.fin (hE.trans x2.h) rfl
  have HI2 := Lib.hid (fun x : ExtW W => ExtW.call (RetE.bt hI (HI x)))
  have HOK := Lib.hid hI
  clear HI hI
  go_upto_region 3 with (first | (go_at_call 32; refine (HR2.out _).mono ?_; rintro e w' ⟨rfl, x1, rfl⟩) | (go_at_call 15; refine (HF2.out _).mono ?_; rintro e w' ⟨rfl, x3, rfl⟩) | (go_at_call 33; refine (HI2.out _).mono ?_; rintro e w' ⟨rfl, x4, rfl⟩))
  have HRun : Hid (Calls Try.prog 21 #[.agg #[.int .i64 X.weeks, .int .i64 X.price, .int .i64 X.age, .int .i64 X.step, .slice p X.rough.length c, .slice q X.recs.length d], .slice pp l.length pc] x4.w (fun e w' => ∃ y : ExtW W, w' = y.w ∧ ∃ u uc, e = .returned (.tuple #[.slice u X.recs.length uc, .int .i64 (runTo X l l.length).age, .int .i64 (runTo X l l.length).cost, .int .i64 0]) ∧ IntsAt y.w u (wornL X.recs.length (runTo X l l.length).worn))) := Lib.hid (by
    refine (Run03 _ X pp l pc x4.w (WrV.mono _ _ _ _ (hE.trans x4.h) HV.out) (modest_valid HRD.out.1) (by omega) (fun y hy => by have := HR40.out y hy; omega) (HPL.out.ext x4.h)).mono ?_
    rintro e w' ⟨hE2, (⟨hx1, hx2, ⟨u, rfl, hu⟩⟩ | ⟨hx1, hx2, rfl⟩ | ⟨hx1, rfl⟩)⟩
    · obtain ⟨u', c', rfl, hu⟩ := hu
      refine ⟨⟨w', x4.h.trans hE2⟩, rfl, u', c', ?_, hu⟩
      rw [wornL_len]
    · exact absurd HOK.out hx2
    · exact absurd HRD.out.1 hx1)
  go_upto_region 6 with (go_at_call 21; refine HRun.out.mono ?_; rintro e w' ⟨y, rfl, u, uc, rfl, hu⟩)
  have r2 := ExtW.cell (q2 y)
  have r5 := ExtW.cell (q5 y)
  have HPL2 := Lib.hid (HPL.out.ext y.h)
  have HRC2 := Lib.hid (HRC.out.ext y.h)
  have HWK2 := Lib.hid (fun x : ExtW y.w => ExtW.call (works03 x.w))
  have HEy := Lib.hid (hE.trans y.h)
  have HWKL : Hid (X.weeks = l.length) := Lib.hid HOK.out.1.symm
  clear q0 q1 q2 q3 q4 q5 HPL HRC HWK HRun HI2 HF2 HR2 x0 x1 x3 x4 hE
  obtain ⟨W5, hW5⟩ : ∃ W5, W5 = y.w := ⟨_, rfl⟩
  rw [← hW5] at r2 r5 HPL2 HRC2 HWK2 HEy hu ⊢
  clear hW5 y
  obtain ⟨z0, hz0⟩ := ExtW.of (Ext.refl W5)
  conv => arg 5; rw [hz0]
  clear hz0
  go_wp2
  go_loopw [9, 10] (fun a i wr => ∃ k : Nat, k ≤ l.length ∧ i = .int .i64 k ∧ a = .int .i64 (wantTo X l k) ∧ ∃ z : ExtW W5, wr = z.w) (fun _ i _ => l.length - (intOf i).toNat)
  case atStart => exact ⟨0, by omega, rfl, rfl, z0, rfl⟩
  case round =>
    clear z0
    obtain ⟨k, hk, rfl, rfl, z, rfl⟩ := hrel
    have hwb := wantTo_bd HRD.out.1 l k
    by_cases hlt : k < l.length
    · obtain ⟨b, o, pq, pcc, rfl, hc1, hc2, -⟩ := (HPL2.out.ext z.h) k hlt
      have hwn : wantTo X l (k + 1) = (if l[k].needle = 1 then 0 else wantTo X l k) + sumWk X k X.recs.length := by rw [wantTo, wkAt_eq hlt]
      by_cases hnd : l[k].needle = 1
      · rw [if_pos hnd] at hwn
        have HWN := Lib.hid hwn
        rw [hnd] at hc1
        clear hwn hnd
        go_wp2
        go_loopw [9, 11] (fun a i wr => ∃ m : Nat, m ≤ X.recs.length ∧ i = .int .i64 m ∧ a = .int .i64 (0 + sumWk X k m) ∧ ∃ z : ExtW W5, wr = z.w) (fun _ i _ => X.recs.length - (intOf i).toNat)
        case atStart => exact ⟨0, by omega, rfl, by simp [sumWk], z, rfl⟩
        case round =>
          clear hc1 hc2 z
          obtain ⟨m, hm, rfl, rfl, z, rfl⟩ := hrel
          by_cases hlm : m < X.recs.length
          · obtain ⟨rb, ro, q', c', rfl, -, -, -, hr4, hq⟩ := (HRC2.out.ext z.h) m hlm
            obtain ⟨hk', hpe⟩ := plays_eq HRD.out.1 (wk := k) hlm (by have := HWKL.out; omega)
            obtain ⟨b3, o3, rfl, hc⟩ := hq.at k hk'
            rw [← hpe] at hc
            have hsm := sumWk_bd HRD.out.1 k m
            have hpb := playsW_bd HRD.out.1 k m
            have hsn : sumWk X k (m + 1) = sumWk X k m + playsW X k m := rfl
            obtain ⟨pl, hpl⟩ : ∃ pl, pl = playsW X k m := ⟨_, rfl⟩
            obtain ⟨sm, hsm'⟩ : ∃ sm, sm = sumWk X k m := ⟨_, rfl⟩
            conv => arg 4; rw [← hsm']
            rw [← hpl] at hc hpb hsn
            rw [← hsm'] at hsm hsn
            have hw1 : IntKind.i64.wrap (0 + sm + pl) = 0 + sm + pl := IntWalk.i64_in _ (by omega)
            have HSN := Lib.hid hsn
            clear hpl hsm' hsn hpe
            go_wp2
            go_roundw
            case rel => exact ⟨m + 1, by omega, by go_num, by rw [HSN.out]; congr 1; omega, z, rfl⟩
            case measure => simp [intOf]; omega
          · obtain rfl : m = X.recs.length := by omega
            go_wp2
            go_roundw
            case rel => exact ⟨k + 1, by omega, by go_num, by rw [HWN.out], z, rfl⟩
            case measure => simp [intOf]; omega
      · rw [if_neg hnd] at hwn
        have hnd' : (l[k].needle == 1) = false := by simpa using hnd
        obtain ⟨ak, hak⟩ : ∃ ak, ak = wantTo X l k := ⟨_, rfl⟩
        conv => arg 4; rw [← hak]
        rw [← hak] at hwn hwb
        have HWN := Lib.hid hwn
        clear hwn hnd hak
        go_wp2
        go_loopw [9, 11] (fun a i wr => ∃ m : Nat, m ≤ X.recs.length ∧ i = .int .i64 m ∧ a = .int .i64 (ak + sumWk X k m) ∧ ∃ z : ExtW W5, wr = z.w) (fun _ i _ => X.recs.length - (intOf i).toNat)
        case atStart => exact ⟨0, by omega, rfl, by simp [sumWk], z, rfl⟩
        case round =>
          clear hc1 hc2 z
          obtain ⟨m, hm, rfl, rfl, z, rfl⟩ := hrel
          by_cases hlm : m < X.recs.length
          · obtain ⟨rb, ro, q', c', rfl, -, -, -, hr4, hq⟩ := (HRC2.out.ext z.h) m hlm
            obtain ⟨hk', hpe⟩ := plays_eq HRD.out.1 (wk := k) hlm (by have := HWKL.out; omega)
            obtain ⟨b3, o3, rfl, hc⟩ := hq.at k hk'
            rw [← hpe] at hc
            have hsm := sumWk_bd HRD.out.1 k m
            have hpb := playsW_bd HRD.out.1 k m
            have hsn : sumWk X k (m + 1) = sumWk X k m + playsW X k m := rfl
            obtain ⟨pl, hpl⟩ : ∃ pl, pl = playsW X k m := ⟨_, rfl⟩
            obtain ⟨sm, hsm'⟩ : ∃ sm, sm = sumWk X k m := ⟨_, rfl⟩
            conv => arg 4; rw [← hsm']
            rw [← hpl] at hc hpb hsn
            rw [← hsm'] at hsm hsn
            have hw1 : IntKind.i64.wrap (ak + sm + pl) = ak + sm + pl := IntWalk.i64_in _ (by omega)
            have HSN := Lib.hid hsn
            clear hpl hsm' hsn hpe
            go_wp2
            go_roundw
            case rel => exact ⟨m + 1, by omega, by go_num, by rw [HSN.out]; congr 1; omega, z, rfl⟩
            case measure => simp [intOf]; omega
          · obtain rfl : m = X.recs.length := by omega
            go_wp2
            go_roundw
            case rel => exact ⟨k + 1, by omega, by go_num, by rw [HWN.out], z, rfl⟩
            case measure => simp [intOf]; omega
    · obtain rfl : k = l.length := by omega
      clear hlt hwb
      have hage : ((runTo X l l.length).age == wantTo X l l.length) = true := by rw [age_run]; simp
      obtain ⟨ag, hag⟩ : ∃ ag, ag = (runTo X l l.length).age := ⟨_, rfl⟩
      obtain ⟨wa, hwa⟩ : ∃ wa, wa = wantTo X l l.length := ⟨_, rfl⟩
      conv => arg 4; rw [← hag, ← hwa]
      rw [← hag, ← hwa] at hage
      clear hag hwa
      go_wp2
      go_loopw [12] (fun i wr => ∃ k : Nat, k ≤ X.recs.length ∧ i = .int .i64 k ∧ ∃ z : ExtW W5, wr = z.w) (fun i _ => X.recs.length - (intOf i).toNat)
      case atStart => exact ⟨0, by omega, rfl, z, rfl⟩
      case round =>
        clear z
        obtain ⟨i, hi, rfl, z, rfl⟩ := hrel
        by_cases hlt : i < X.recs.length
        · obtain ⟨rb, ro, q', c', rfl, hr1, -, -, hr4, hq⟩ := (HRC2.out) i hlt
          have e1 := ExtW.cell hr1
          have e4 := ExtW.cell hr4
          have HQ := Lib.hid hq
          have hne := never_played HRD.out.1 HOK.out hlt l.length
          have hl0 : leftTo X l i 0 = X.recs[i].worn := by show (recW X i).worn = _; rw [recW_eq hlt]
          rw [← hl0] at e1
          have HNE := Lib.hid hne
          clear hr1 hr4 hq hne hl0
          go_upto_region 19 with (fail)
          refine wp_region_extW (by kernel_rfl) (by kernel_rfl) ?_
          repeat (go_big_quiet_step (fail))
          refine wpQuiet_nil ?_
          rintro _ ⟨z, rfl⟩
          go_wp2
          go_loopw [13, 14, 15] (fun a b j wr => ∃ k : Nat, k ≤ l.length ∧ j = .int .i64 k ∧ a = .int .i64 (playedTo X i k) ∧ b = .int .i64 (leftTo X l i k) ∧ ∃ z : ExtW W5, wr = z.w) (fun _ _ j _ => l.length - (intOf j).toNat)
          case atStart => exact ⟨0, by omega, rfl, rfl, rfl, z, rfl⟩
          case round =>
            clear z
            obtain ⟨k, hk, rfl, rfl, rfl, z, rfl⟩ := hrel
            have hpb := playedTo_bd HRD.out.1 i k
            by_cases hlk : k < l.length
            · obtain ⟨b, o, pq, pcc, rfl, hc1, hc2, hri⟩ := (HPL2.out.ext z.h) k hlk
              obtain ⟨hk', hpe⟩ := plays_eq HRD.out.1 (wk := k) hlt (by have := HWKL.out; omega)
              obtain ⟨b3, o3, rfl, hc⟩ := (HQ.out.ext z.h).at k hk'
              rw [← hpe] at hc
              have hpb2 := playsW_bd HRD.out.1 k i
              have hsn : playedTo X i (k + 1) = playedTo X i k + playsW X k i := rfl
              have hln : leftTo X l i (k + 1) = if (i : Int) ∈ l[k].recs then 0 else leftTo X l i k := by rw [leftTo, wkAt_eq hlk]
              obtain ⟨pl, hpl⟩ : ∃ pl, pl = playsW X k i := ⟨_, rfl⟩
              obtain ⟨pt, hpt⟩ : ∃ pt, pt = playedTo X i k := ⟨_, rfl⟩
              obtain ⟨lt, hlt'⟩ : ∃ lt, lt = leftTo X l i k := ⟨_, rfl⟩
              conv => arg 4; rw [← hpt, ← hlt']
              rw [← hpl] at hc hpb2 hsn
              rw [← hpt] at hpb hsn
              rw [← hlt'] at hln
              have hw1 : IntKind.i64.wrap (pt + pl) = pt + pl := IntWalk.i64_in _ (by omega)
              have HSN := Lib.hid hsn
              have hIN := In01 pq l[k].recs pcc i z.w (by have := HR40.out _ (List.getElem_mem hlk); omega) hri
              clear hpl hpt hlt' hsn hpe hri
              by_cases hin : (i : Int) ∈ l[k].recs
              · rw [if_pos hin] at hln
                have HLN := Lib.hid hln
                have HIN := Lib.hid (ExtW.call (RetQ.e (RetQ.bt hin hIN)))
                clear hin hIN hln
                go_wp2_with (go_at_call 39; refine HIN.out.mono ?_; rintro e w' ⟨rfl, z2, rfl⟩)
                go_roundw
                case rel => exact ⟨k + 1, by omega, by go_num, by rw [HSN.out], by rw [HLN.out], z2, rfl⟩
                case measure => simp [intOf]; omega
              · rw [if_neg hin] at hln
                have HLN := Lib.hid hln
                have HIN := Lib.hid (ExtW.call (RetQ.e (RetQ.bf hin hIN)))
                clear hin hIN hln
                go_wp2_with (go_at_call 39; refine HIN.out.mono ?_; rintro e w' ⟨rfl, z2, rfl⟩)
                go_roundw
                case rel => exact ⟨k + 1, by omega, by go_num, by rw [HSN.out], by rw [HLN.out], z2, rfl⟩
                case measure => simp [intOf]; omega
            · obtain rfl : k = l.length := by omega
              obtain ⟨b3, o3, rfl, hc⟩ := (hu.ext z.h).at i (by rw [wornL_len]; exact hlt)
              rw [show (wornL X.recs.length (runTo X l l.length).worn)[i]'(by rw [wornL_len]; exact hlt) = (runTo X l l.length).worn i from by simp [wornL]] at hc
              have hne := HNE.out
              obtain ⟨wi, hwi⟩ : ∃ wi, wi = (runTo X l l.length).worn i := ⟨_, rfl⟩
              obtain ⟨pt, hpt⟩ : ∃ pt, pt = playedTo X i l.length := ⟨_, rfl⟩
              obtain ⟨lt, hlt'⟩ : ∃ lt, lt = leftTo X l i l.length := ⟨_, rfl⟩
              conv => arg 4; rw [← hpt, ← hlt']
              rw [← hwi] at hc hne
              rw [← hpt, ← hlt'] at hne
              clear hwi hpt hlt' hlk
              by_cases h0 : pt = 0
              · have hb0 : (pt == 0) = true := by simpa using h0
                have hb1 : (wi != lt) = false := by simpa using hne h0
                clear h0 hne
                go_wp2
                go_roundw
                case rel => exact ⟨i + 1, by omega, by go_num, z, rfl⟩
                case measure => simp [intOf]; omega
              · have hb0 : (pt == 0) = false := by simpa using h0
                clear h0 hne
                go_wp2
                go_roundw
                case rel => exact ⟨i + 1, by omega, by go_num, z, rfl⟩
                case measure => simp [intOf]; omega
        · go_wp2_with (go_at_call 16; refine (HWK2.out _).mono ?_; rintro e w' ⟨rfl, z2, rfl⟩)
          go_ret
          exact RetE.fin (HEy.out.trans z2.h) rfl
end Go.Proofs.Ytkcilgjkdiopnaa
