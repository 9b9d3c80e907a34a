/- The walk of MetersParts. -/
import Derived.Test.YtimelbcfaniifaaDoorQ7n
namespace Go.Proofs.YtimelbcfaniifaaDoor
open Go.RowKit

theorem ends_of {l : List Nat} {k : List Int} {lo hi : Int} (hne : l ≠ []) (hk : k = l.map fun t : Nat => (t : Int)) (h0 : lo = (l.headD 0 : Nat)) (h1 : hi = (l.getLastD 0 : Nat)) : ∃ m, k.length = m + 1 ∧ k[0]? = some lo ∧ k[m]? = some hi := by
  subst hk; subst h0; subst h1
  cases l with
  | nil => exact absurd rfl hne
  | cons a l =>
    refine ⟨l.length, by simp, by simp, ?_⟩
    have e : (a :: l)[l.length]? = some ((a :: l).getLastD 0) := by
      rw [List.getLastD_eq_getLast?, List.getLast?_eq_getElem?]
      simp
    rw [List.getElem?_map, e]
    rfl

set_option maxRecDepth 20000 in
set_option maxHeartbeats 16000000 in
theorem MetersParts04 (v : Value) (M : Mt) (x0 x1 x2 x3 : Int) (w : World) (hv : MtV w v M) (hT : TabW w) :
    Calls Tryd.prog 3 #[v, .agg #[.int .i64 x0, .int .i64 x1, .int .i64 x2, .int .i64 x3]] w (RetE (.bool true) w) := by
  have HV := Lib.hid hv
  have HT := Lib.hid hT
  obtain ⟨p, c, qq, d, rfl, hp, hq⟩ := hv
  clear hp hq hT
  go_enter Tryd.func3, Tryd.ntmps3
  go_upto_region 1 with (fail)
  obtain ⟨s0, hs0⟩ : ∃ s0, s0 = w.heap.size := ⟨_, rfl⟩
  obtain ⟨W, hW⟩ : ∃ W, W = (w.alloc (.cells #[.slice p M.weeks.length c, .slice qq M.reads.length d, .int .i64 M.wrong] 25)).alloc (.cells #[.int .i64 x0, .int .i64 x1, .int .i64 x2, .int .i64 x3] 27) := ⟨_, rfl⟩
  have m0 : W.heap[s0]? = some (.cells #[.slice p M.weeks.length c, .slice qq M.reads.length d, .int .i64 M.wrong] 25) := by rw [hs0]; exact heap_at0 (by rw [hW]; exact (by repeat (first | exact Ext.refl _ | assumption | refine Ext.drewN ?_ _ | refine Ext.drew ?_ | refine Ext.alloc ?_ _)))
  have m1 : W.heap[s0 + 1]? = some (.cells #[.int .i64 x0, .int .i64 x1, .int .i64 x2, .int .i64 x3] 27) := by rw [hs0, hW]; exact heap_new2 _ _ _
  have hE : Ext w W := by rw [hW]; exact (by repeat (first | exact Ext.refl _ | assumption | refine Ext.drewN ?_ _ | refine Ext.drew ?_ | refine Ext.alloc ?_ _))
  rw [← hs0, ← hW]
  have a0 := ExtW.cell (v := .slice p M.weeks.length c) (cell_of_heap m0 0)
  have a1 := ExtW.cell (v := .slice qq M.reads.length d) (cell_of_heap m0 1)
  have a2 := ExtW.cell (v := .int .i64 M.wrong) (cell_of_heap m0 2)
  have k0 := ExtW.cell (v := .int .i64 x0) (cell_of_heap m1 0)
  have k1 := ExtW.cell (v := .int .i64 x1) (cell_of_heap m1 1)
  have k2 := ExtW.cell (v := .int .i64 x2) (cell_of_heap m1 2)
  have k3 := ExtW.cell (v := .int .i64 x3) (cell_of_heap m1 3)
  have HM0 := Lib.hid m0
  have HM1 := Lib.hid m1
  have HE := Lib.hid hE
  have HS0 := Lib.hid hs0
  have HWK := Lib.hid (fun x : ExtW W => ExtW.callX (x := x) (works04 x.w (HT.out.ext (HE.out.trans x.h))))
  have HRD := Lib.hid (fun x : ExtW W => ExtW.callX (x := x) (ready04 M _ x.w (HV.out.ext (HE.out.trans x.h))))
  have HAR := Lib.hid (fun x : ExtW W => ExtW.callX (x := x) (AreWeeks04 M x1 x3 _ x.w (HV.out.ext (HE.out.trans x.h))))
  have HBR := Lib.hid (fun x : ExtW W => ExtW.callX (x := x) (AreWeeks04 M x3 x2 _ x.w (HV.out.ext (HE.out.trans x.h))))
  obtain ⟨y0, hy0⟩ := ExtW.of (Ext.refl W)
  clear hW m0 m1 hE hs0
  conv => arg 5; rw [hy0]
  clear hy0
  obtain ⟨b, hb⟩ : ∃ b, readyB M = b := ⟨_, rfl⟩
  rw [hb] at HRD
  obtain ⟨ba, hba⟩ : ∃ b, areB x1 x3 M.weeks.length = b := ⟨_, rfl⟩
  obtain ⟨bb, hbb⟩ : ∃ b, areB x3 x2 M.weeks.length = b := ⟨_, rfl⟩
  rw [hba] at HAR
  rw [hbb] at HBR
  have HBA := Lib.hid hba
  have HBB := Lib.hid hbb
  clear hba hbb
  cases b
  case false =>
    clear hb
    go_wp2_with (first | (go_at_call 14; refine (HRD.out _).mono ?_; rintro e w2 ⟨rfl, xr, rfl, -⟩) | (go_at_call 15; first | (with_reducible refine (HAR.out _).mono ?_; rintro e w2 ⟨rfl, xa, rfl, -⟩) | (with_reducible refine (HBR.out _).mono ?_; rintro e w2 ⟨rfl, xb, rfl, -⟩)) | (go_at_call 16; refine (HWK.out _).mono ?_; rintro e w2 ⟨rfl, xw, rfl, -⟩))
    go_ret
    exact RetE.fin (HE.out.trans xw.h) rfl
  obtain ⟨hfar, hM⟩ := readyB_iff.1 hb
  have HVM := Lib.hid hM
  have hn5 := hM.nw
  have hn7 := hM.nr
  clear hb hfar hM
  cases ba
  case false =>
    go_wp2_with (first | (go_at_call 14; refine (HRD.out _).mono ?_; rintro e w2 ⟨rfl, xr, rfl, -⟩) | (go_at_call 15; first | (with_reducible refine (HAR.out _).mono ?_; rintro e w2 ⟨rfl, xa, rfl, -⟩) | (with_reducible refine (HBR.out _).mono ?_; rintro e w2 ⟨rfl, xb, rfl, -⟩)) | (go_at_call 16; refine (HWK.out _).mono ?_; rintro e w2 ⟨rfl, xw, rfl, -⟩))
    go_ret
    exact RetE.fin (HE.out.trans xw.h) rfl
  cases bb
  case false =>
    go_wp2_with (first | (go_at_call 14; refine (HRD.out _).mono ?_; rintro e w2 ⟨rfl, xr, rfl, -⟩) | (go_at_call 15; first | (with_reducible refine (HAR.out _).mono ?_; rintro e w2 ⟨rfl, xa, rfl, -⟩) | (with_reducible refine (HBR.out _).mono ?_; rintro e w2 ⟨rfl, xb, rfl, -⟩)) | (go_at_call 16; refine (HWK.out _).mono ?_; rintro e w2 ⟨rfl, xw, rfl, -⟩))
    go_ret
    exact RetE.fin (HE.out.trans xw.h) rfl
  have hka := areB_iff.1 HBA.out
  have hkb := areB_iff.1 HBB.out
  have hzz : areB x3 x3 M.weeks.length = true := areB_iff.2 (by omega)
  have hft : areB x1 x2 M.weeks.length = true := areB_iff.2 (by omega)
  have HZZ := Lib.hid hzz
  have HFT := Lib.hid hft
  have l0 := sumsA_len M x3 x3
  have l1 := sumsA_len M x1 x3
  have l2 := sumsA_len M x3 x2
  have l3 := sumsA_len M x1 x2
  have hkn := ask_known HVM.out
  have sc : ∀ (f t : Int) (hb : areB f t M.weeks.length = true) (x : ExtW W), Calls Tryd.prog 17 #[.agg #[.slice p M.weeks.length c, .slice qq M.reads.length d, .int .i64 M.wrong], .int .i64 f, .int .i64 t] x.w (RetL (sumsA M f t) (askV M true) x.w) := fun f t hb x => by
    have h := Sums04 M f t _ x.w (HV.out.ext (HE.out.trans x.h)) (by omega) (by omega) (HT.out.ext (HE.out.trans x.h))
    have e : okL (askV M (areB f t M.weeks.length)) (bitsI (betTo M f.toNat t.toNat 100)) = sumsA M f t := rfl
    rw [e, hb] at h
    exact h
  have HS0 := Lib.hid (fun x : ExtW W => ExtW.callL (x := x) (sc x3 x3 hzz x))
  have HS1 := Lib.hid (fun x : ExtW W => ExtW.callL (x := x) (sc x1 x3 HBA.out x))
  have HS2 := Lib.hid (fun x : ExtW W => ExtW.callL (x := x) (sc x3 x2 HBB.out x))
  have HS3 := Lib.hid (fun x : ExtW W => ExtW.callL (x := x) (sc x1 x2 hft x))
  obtain ⟨z0, hz0⟩ : ∃ l, l = sumsA M x3 x3 := ⟨_, rfl⟩
  obtain ⟨z1, hz1⟩ : ∃ l, l = sumsA M x1 x3 := ⟨_, rfl⟩
  obtain ⟨z2, hz2⟩ : ∃ l, l = sumsA M x3 x2 := ⟨_, rfl⟩
  obtain ⟨z3, hz3⟩ : ∃ l, l = sumsA M x1 x2 := ⟨_, rfl⟩
  obtain ⟨nt, hnt⟩ : ∃ n, n = askV M true := ⟨_, rfl⟩
  rw [← hz0, ← hnt] at HS0
  rw [← hz1, ← hnt] at HS1
  rw [← hz2, ← hnt] at HS2
  rw [← hz3, ← hnt] at HS3
  rw [← hz0] at l0
  rw [← hz1] at l1
  rw [← hz2] at l2
  rw [← hz3] at l3
  rw [← hnt] at hkn
  have Z0 := Lib.hid hz0
  have Z1 := Lib.hid hz1
  have Z2 := Lib.hid hz2
  have Z3 := Lib.hid hz3
  have HNT := Lib.hid hnt
  have HKN := Lib.hid hkn
  have HKW := Lib.hid (fun x : ExtW W => isKnown04 nt x.w)
  clear sc hzz hft hz0 hz1 hz2 hz3 hnt hkn
  go_upto_region 4 with (first | (go_at_call 14; refine (HRD.out _).mono ?_; rintro e w2 ⟨rfl, xr, rfl, -⟩) | (go_at_call 15; first | (with_reducible refine (HAR.out _).mono ?_; rintro e w2 ⟨rfl, xa, rfl, -⟩) | (with_reducible refine (HBR.out _).mono ?_; rintro e w2 ⟨rfl, xb, rfl, -⟩)) | (go_at_call 17; refine (HS0.out _).mono ?_; rintro e w2 ⟨p0, c0, rfl, y0, rfl, -, hI0, -⟩))
  have HI0 := Lib.hid hI0
  clear hI0
  go_upto_region 5 with (go_at_call 17; refine (HS1.out _).mono ?_; rintro e w2 ⟨p1, c1, rfl, y1, rfl, hA, hI1, -⟩)
  have HI0 := Lib.hid (HI0.out.ext hA)
  have HI1 := Lib.hid hI1
  clear hI1 hA
  go_upto_region 6 with (go_at_call 17; refine (HS2.out _).mono ?_; rintro e w2 ⟨p2, c2, rfl, y2, rfl, hA, hI2, -⟩)
  have HI0 := Lib.hid (HI0.out.ext hA)
  have HI1 := Lib.hid (HI1.out.ext hA)
  have HI2 := Lib.hid hI2
  clear hI2 hA
  go_upto_region 7 with (go_at_call 17; refine (HS3.out _).mono ?_; rintro e w2 ⟨p3, c3, rfl, y3, rfl, hA, hI3, -⟩)
  have HI0 := Lib.hid (HI0.out.ext hA)
  have HI1 := Lib.hid (HI1.out.ext hA)
  have HI2 := Lib.hid (HI2.out.ext hA)
  have HI3 := Lib.hid hI3
  clear hI3 hA
  obtain ⟨WF, hWF⟩ : ∃ WF, WF = y3.w := ⟨_, rfl⟩
  have hEF : Ext W WF := by rw [hWF]; exact y3.h
  rw [← hWF] at HI0 HI1 HI2 HI3 ⊢
  have q0 := heap_ext3 HM0.out hEF
  have q1 := heap_ext3 HM1.out hEF
  have a0 := ExtW.cell (v := .slice p M.weeks.length c) (cell_of_heap q0 0)
  have a1 := ExtW.cell (v := .slice qq M.reads.length d) (cell_of_heap q0 1)
  have a2 := ExtW.cell (v := .int .i64 M.wrong) (cell_of_heap q0 2)
  have k0 := ExtW.cell (v := .int .i64 x0) (cell_of_heap q1 0)
  have k1 := ExtW.cell (v := .int .i64 x1) (cell_of_heap q1 1)
  have k2 := ExtW.cell (v := .int .i64 x2) (cell_of_heap q1 2)
  have k3 := ExtW.cell (v := .int .i64 x3) (cell_of_heap q1 3)
  have HEF := Lib.hid (HE.out.trans hEF)
  have HKF := Lib.hid (fun x : ExtW WF => ExtW.callX (x := x) (isKnown04 nt x.w))
  have HWK := Lib.hid (fun x : ExtW WF => ExtW.callX (x := x) (works04 x.w (HT.out.ext (HEF.out.trans x.h))))
  have HQ0 := Lib.hid q0
  have HQ1 := Lib.hid q1
  have g1 : ¬2000 < (z1.length : Int) := by omega
  have g2 : ¬2000 < (z2.length : Int) := by omega
  have g3 : ¬2000 < (z3.length : Int) := by omega
  obtain ⟨x0', hx0'⟩ := ExtW.of (Ext.refl WF)
  clear hWF hEF q0 q1 HS0 HS1 HS2 HS3
  conv => arg 5; rw [hx0']
  clear hx0'
  rcases HKN.out with hnt0 | hnt3
  case inr =>
    subst hnt3
    go_wp2_with (first | (go_at_call 18; refine (HKF.out _).mono ?_; rintro e w2 ⟨rfl, xk, rfl, -⟩) | (go_at_call 16; refine (HWK.out _).mono ?_; rintro e w2 ⟨rfl, xw, rfl, -⟩))
    go_ret
    exact RetE.fin (HEF.out.trans xw.h) rfl
  subst hnt0
  have hzk : askV M true = 0 := HNT.out.symm
  have HZK := Lib.hid hzk
  have hz0 : z0 = [0] := by rw [Z0.out]; exact parts_zero HVM.out HZZ.out hzk
  have hne : z3 ≠ [] := by rw [Z3.out]; exact sumsA_ne HVM.out HFT.out hzk
  have HNE := Lib.hid hne
  subst hz0
  have hl3 : ¬(z3.length : Int) = 0 := by have := List.length_pos_iff.2 hne; omega
  have hl3' : ((z3.length : Int) == 0) = false := by simpa using hne
  clear hzk hne
  go_upto_region 11 with (go_at_call 18; refine (HKF.out _).mono ?_; rintro e w2 ⟨rfl, xk, rfl, -⟩)
  have HA : Ext xk.w (xk.w.alloc (.cells #[.int .i64 0] 3)) := Ext.alloc (Ext.refl _) _
  have hsi : Calls Tryd.prog 19 #[.slice p0 1 c0, .slice (some ⟨xk.w.heap.size, 0, none⟩) 1 1] (xk.w.alloc (.cells #[.int .i64 0] 3)) (RetE (.bool true) _) :=
    SameInts02 p0 (some ⟨xk.w.heap.size, 0, none⟩) [0] [0] c0 1 _ (by decide) (by decide) (HI0.out.ext (xk.h.trans HA)) (IntsAt.cells [0] (heap_new xk.w _))
  have HSI := Lib.hid (hsi.mono (fun e w' h => (⟨h.1, (xk.h.trans HA).trans h.2⟩ : e = .returned (.bool true) ∧ Ext WF w')))
  clear HA hsi g1 g2 g3
  go_upto_region 14 with (go_at_call 19; refine HSI.out.mono ?_; rintro e w2 ⟨rfl, hEy⟩; obtain ⟨xs, rfl⟩ := ExtW.of hEy)
  clear hEy HSI hl3 hl3'
  go_wp2
  go_loopw [13] (fun i wr => ∃ k : Nat, k ≤ z3.length ∧ i = .int .i64 k ∧ ∃ x : ExtW WF, wr = x.w) (fun i _ => z3.length - (intOf i).toNat)
  case atStart => exact ⟨0, Nat.zero_le _, rfl, xs, rfl⟩
  case round =>
    obtain ⟨k, hk, rfl, x, rfl⟩ := hrel
    by_cases hlt : k < z3.length
    · have hlt' : (k : Int) < (z3.length : Int) := by omega
      obtain ⟨b3, o3, rfl, hc3⟩ := HI3.out.at k hlt
      obtain ⟨u, hu⟩ : ∃ u, z3[k] = u := ⟨_, rfl⟩
      have hmem : u ∈ sumsA M x1 x2 := by rw [← Z3.out, ← hu]; exact List.getElem_mem hlt
      have hub := sumsA_bound HVM.out HFT.out HZK.out hmem
      obtain ⟨y, hy1, hy2⟩ := parts_split HVM.out HBA.out HBB.out HZK.out hmem
      rw [← Z1.out] at hy1
      rw [← Z2.out] at hy2
      have HFD := Lib.hid (show z1.any (fun y => inL z2 (u - y)) = true from List.any_eq_true.2 ⟨y, hy1, (inL_iff _ _).2 hy2⟩)
      rw [hu] at hc3
      have cu := ExtW.cell hc3
      have hu0 : 0 ≤ u := hub.1
      have hu1 : u ≤ 2000 := by omega
      have hu0' : ¬u < 0 := by omega
      have hu1' : ¬2000 < u := by omega
      clear hu hmem hub hy1 hy2 hc3
      go_upto_region 18 with (fail)
      go_wp2
      go_loopw [14, 15] (fun f i wr => ∃ m : Nat, m ≤ z1.length ∧ f = .bool ((z1.take m).any (fun y => inL z2 (u - y))) ∧ i = .int .i64 m ∧ ∃ x : ExtW WF, wr = x.w) (fun _ i _ => z1.length - (intOf i).toNat)
      case atStart => exact ⟨0, Nat.zero_le _, rfl, rfl, x, rfl⟩
      case round =>
        obtain ⟨m, hm, rfl, rfl, x', rfl⟩ := hrel
        by_cases hlm : m < z1.length
        · have hlm' : (m : Int) < (z1.length : Int) := by omega
          have hstep : (z1.take (m + 1)).any (fun y => inL z2 (u - y)) = ((z1.take m).any (fun y => inL z2 (u - y)) || inL z2 (u - z1[m])) := any_take_succ _ _ _ hlm
          obtain ⟨b1, o1, rfl, hc1⟩ := HI1.out.at m hlm
          obtain ⟨y, hy⟩ : ∃ y, z1[m] = y := ⟨_, rfl⟩
          have hym : y ∈ sumsA M x1 x3 := by rw [← Z1.out, ← hy]; exact List.getElem_mem hlm
          have hyb := sumsA_bound HVM.out HBA.out HZK.out hym
          rw [hy] at hc1 hstep
          have cy := ExtW.cell hc1
          have hin := fun x : ExtW WF => ExtW.call (x := x) (in04 p2 z2 c2 (u - y) x.w (by omega) (HI2.out.ext x.h))
          obtain ⟨bt, hbt⟩ : ∃ bt, inL z2 (u - y) = bt := ⟨_, rfl⟩
          obtain ⟨fd, hfd⟩ : ∃ fd, (z1.take m).any (fun y => inL z2 (u - y)) = fd := ⟨_, rfl⟩
          rw [hbt] at hin hstep
          rw [hfd] at hstep
          rw [hfd]
          have HIN := Lib.hid hin
          have HST := Lib.hid hstep
          have y0 : ¬y < 0 := by omega
          have y1 : ¬2000 < y := by omega
          have y2 : 0 ≤ y := by omega
          have y3 : y ≤ 2000 := by omega
          have t1 : IntKind.i64.wrap (u - y) = u - y := IntWalk.i64_in _ (by omega)
          have m1 : max y 0 = y := by omega
          have m2 : min y 2000 = y := by omega
          clear hy hym hyb hc1 hin hbt hfd hstep
          cases fd
          · cases bt
            · go_upto_region 20 with (fail)
              refine wp_region_extW (by kernel_rfl) (by kernel_rfl) ?_
              repeat (go_big_quiet_step ((go_at_call 20; exact HIN.out _)))
              refine wpQuiet_nil ?_
              rintro _ ⟨x5, rfl⟩
              go_wp2
              go_roundw
              case rel => exact ⟨m + 1, by omega, by rw [HST.out]; rfl, by simp, x5, rfl⟩
              case measure => simp [intOf]; omega
            · go_upto_region 20 with (fail)
              refine wp_region_extW (by kernel_rfl) (by kernel_rfl) ?_
              repeat (go_big_quiet_step ((go_at_call 20; exact HIN.out _)))
              refine wpQuiet_nil ?_
              rintro _ ⟨x5, rfl⟩
              go_wp2
              go_roundw
              case rel => exact ⟨m + 1, by omega, by rw [HST.out]; rfl, by simp, x5, rfl⟩
              case measure => simp [intOf]; omega
          · go_upto_region 20 with (fail)
            refine wp_region_extW (by kernel_rfl) (by kernel_rfl) ?_
            repeat (go_big_quiet_step ((go_at_call 20; exact HIN.out _)))
            refine wpQuiet_nil ?_
            rintro _ ⟨x5, rfl⟩
            go_wp2
            go_roundw
            case rel => exact ⟨m + 1, by omega, by rw [HST.out]; rfl, by simp, x5, rfl⟩
            case measure => simp [intOf]; omega
        · obtain rfl : m = z1.length := by omega
          rw [List.take_length, HFD.out]
          clear hu0 hu1 hu0' hu1'
          go_wp2
          go_roundw
          case rel => exact ⟨k + 1, by omega, by simp, x', rfl⟩
          case measure => simp [intOf]; omega
    · obtain rfl : k = z3.length := by omega
      have t1 : IntKind.i64.wrap (x1 + 1) = x1 + 1 := IntWalk.i64_in _ (by omega)
      by_cases hx : x2 = x1 + 1
      case neg =>
        have hx' : (x2 != x1 + 1) = true := by simpa using hx
        have hx'' : ¬x2 = x1 + 1 := hx
        go_wp2_with (go_at_call 16; refine (HWK.out _).mono ?_; rintro e w2 ⟨rfl, xw, rfl, -⟩)
        go_ret
        exact RetE.fin (HEF.out.trans xw.h) rfl
      subst hx
      have hwk := Week04 M x1 _ x.w (HV.out.ext (HEF.out.trans x.h)) (by omega) (by omega) (HT.out.ext (HEF.out.trans x.h))
      have hisw : isWkB x1 M.weeks.length = true := isWkB_iff.2 (by omega)
      obtain ⟨lo, hlo⟩ : ∃ r, r = weekLo M x1 := ⟨_, rfl⟩
      obtain ⟨hi, hhi⟩ : ∃ r, r = weekHi M x1 := ⟨_, rfl⟩
      have hlo' : lo = ((sumsL M x1.toNat (x1.toNat + 1)).headD 0 : Nat) := by rw [hlo]; unfold weekLo; rw [hisw, HZK.out, okN_0 rfl]
      have hhi' : hi = ((sumsL M x1.toNat (x1.toNat + 1)).getLastD 0 : Nat) := by rw [hhi]; unfold weekHi; rw [hisw, HZK.out, okN_0 rfl]
      have hne := (week_span_of HVM.out (a := x1.toNat) (b := x1.toNat + 1) (by omega) (by omega) ((askV_iff HVM.out).1 HZK.out)).1
      have hz3 : z3 = (sumsL M x1.toNat (x1.toNat + 1)).map fun t : Nat => (t : Int) := by
        rw [Z3.out, (sumsA_list HVM.out HFT.out HZK.out).1, show (x1 + 1).toNat = x1.toNat + 1 by omega]
      obtain ⟨m, hm0, hm1, hm2⟩ := ends_of hne hz3 hlo' hhi'
      rw [← hlo, ← hhi, hisw, HZK.out] at hwk
      have HWA := Lib.hid hwk
      obtain ⟨e1, f1⟩ := List.getElem?_eq_some_iff.1 hm1
      obtain ⟨e2, f2⟩ := List.getElem?_eq_some_iff.1 hm2
      obtain ⟨b3, o3, rfl, hc3⟩ := HI3.out.at 0 e1
      obtain ⟨b3', o3', he, hc4⟩ := HI3.out.at m e2
      cases he
      rw [f1, Nat.add_zero] at hc3
      rw [f2] at hc4
      have HC3 := Lib.hid (And.intro hc3 hc4)
      have HM0' := Lib.hid hm0
      have hmb : m < 1536 := by omega
      clear hwk hisw hlo hhi hlo' hhi' hne hz3 hm1 hm2 e1 f1 e2 f2 hc3 hc4
      go_upto_region 26 with (go_at_call 21; refine HWA.out.mono ?_; rintro e w2 ⟨rfl, hE8⟩)
      obtain ⟨s17, hs17⟩ : ∃ s17, s17 = w2.heap.size := ⟨_, rfl⟩
      obtain ⟨WG, hWG⟩ : ∃ WG, WG = w2.alloc (.cells #[.int .i64 lo, .int .i64 hi] 39) := ⟨_, rfl⟩
      have hEG : Ext WF WG := by rw [hWG]; exact (x.h.trans hE8).alloc _
      have m17 : WG.heap[s17]? = some (.cells #[.int .i64 lo, .int .i64 hi] 39) := by rw [hWG, hs17]; exact heap_new _ _
      rw [← hs17, ← hWG]
      have d0 := ExtW.cell (v := .int .i64 lo) (cell_of_heap m17 0)
      have d1 := ExtW.cell (v := .int .i64 hi) (cell_of_heap m17 1)
      have d2 := ExtW.cell (hEG.cell HC3.out.1)
      have d3 := ExtW.cell (hEG.cell HC3.out.2)
      have HWZ := Lib.hid (fun x : ExtW WG => ExtW.call (x := x) (works04 x.w (HT.out.ext (HEF.out.trans (hEG.trans x.h)))))
      have HEG := Lib.hid (HEF.out.trans hEG)
      (try rw [HM0'.out])
      have t2 : IntKind.i64.wrap (m : Int) = m := IntWalk.i64_in _ (by omega)
      have t3 : IntKind.i64.wrap ((m : Int) + 1) = (m : Int) + 1 := IntWalk.i64_in _ (by omega)
      have t4 : (m : Int) < (m : Int) + 1 := by omega
      have t5 : (0 : Int) ≤ (m : Int) := by omega
      obtain ⟨y8, hy8⟩ := ExtW.of (Ext.refl WG)
      clear hE8 hs17 hWG hEG m17 hm0
      conv => arg 5; rw [hy8]
      clear hy8
      refine wp_region_extW (by kernel_rfl) (by kernel_rfl) ?_
      repeat (go_big_quiet_step ((go_at_call 16; exact HWZ.out _)))
      refine wpQuiet_nil ?_
      rintro _ ⟨x5, rfl⟩
      go_wp2
      go_ret
      exact RetE.fin (HEG.out.trans x5.h) rfl
end Go.Proofs.YtimelbcfaniifaaDoor
