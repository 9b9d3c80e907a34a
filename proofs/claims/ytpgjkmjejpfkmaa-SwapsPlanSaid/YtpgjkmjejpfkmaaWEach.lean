/- The walk of SwapsEach. -/
import Derived.Test.YtpgjkmjejpfkmaaWFair
import Derived.Test.YtpgjkmjejpfkmaaA07c
namespace Go.Proofs.Ytpgjkmjejpfkmaa
open Go.RowKit

theorem Always07x {W : World} (x : World) (v : Value) (S : Swap) (hx : Ext W x) (hv : SwapV x v S) (hS : Valid S) :
    Calls Try.prog 44 #[v] x (fun e w' => ∃ p c, e = .returned (.tuple #[.slice p (alwL S).length c, .int .i64 0]) ∧ ∃ y : ExtW W, w' = y.w ∧ PairsAt y.w p (alwL S)) := by
  refine (Always07 v S x hv (modest_of_valid hS)).mono ?_
  rintro e w' (⟨-, p, c, rfl, hp, hE⟩ | ⟨h, -⟩)
  · exact ⟨p, c, rfl, ⟨w', hx.trans hE⟩, rfl, hp⟩
  · exact absurd hS h
theorem Fits07x {W : World} (x : World) (v : Value) (S : Swap) (pp : Option Addr) (pc : Nat) (L : List (List Int)) (hx : Ext W x) (hv : SwapV x v S) (hS : Valid S) (hP : IsPlan S L) (hL : ListsAt x pp L) :
    Calls Try.prog 33 #[v, .slice pp L.length pc] x (fun e w' => e = .returned (.tuple #[.bool (bP (FitP S L)), .int .i64 0]) ∧ ∃ y : ExtW W, w' = y.w) := by
  have := Fits07 v S pp pc L x hv (modest_of_valid hS) hL (by have := hP.1; have := hS.boxes; omega) (fun i h => by have := hP.row_le hS i h; omega)
  rw [fitsV_plan hS hP] at this
  exact this.mono fun e w' ⟨he, hE⟩ => ⟨he, ⟨w', hx.trans hE⟩, rfl⟩

set_option maxRecDepth 100000 in
set_option maxHeartbeats 8000000 in
theorem SwapsEach07 (v : Value) (S : Swap) (p : Option Addr) (L : List (List Int)) (c : Nat) (w : World) (hv : SwapV w v S) (hM : Big S) (hp : ListsAt w p L) (hl : L.length ≤ 9223372036854775807) (hr : ∀ l ∈ L, l.length ≤ 9223372036854775807) :
    Calls Try.prog 10 #[v, .slice p L.length c] w (RetE (.bool true) w) := by
  have HV := Lib.hid hv
  have HR9 := Lib.hid hr
  obtain ⟨p0, c0, p1, c1, p2, c2, p3, c3, rfl, h0, h1, h2, h3⟩ := hv
  have H0 := Lib.hid h0
  clear h0 h1 h2 h3 hr
  go_enter Try.func10, Try.ntmps10
  go_upto_region 1 with (fail)
  have hn := heap_new w (.cells #[.slice p0 S.boxes.length c0, .slice p1 S.stock.length c1, .slice p2 S.earn.length c2, .slice p3 S.keeps.length c3, .int .i64 S.changes] 26)
  obtain ⟨W, hW⟩ : ∃ W, W = w.alloc (.cells #[.slice p0 S.boxes.length c0, .slice p1 S.stock.length c1, .slice p2 S.earn.length c2, .slice p3 S.keeps.length c3, .int .i64 S.changes] 26) := ⟨_, rfl⟩
  have hE : Ext w W := by rw [hW]; exact Ext.alloc (Ext.refl w) _
  rw [← hW] at hn ⊢
  have q0 := ExtW.cell (v := .slice p0 S.boxes.length c0) (cell_of_heap hn 0)
  have q1 := ExtW.cell (v := .slice p1 S.stock.length c1) (cell_of_heap hn 1)
  have q2 := ExtW.cell (v := .slice p2 S.earn.length c2) (cell_of_heap hn 2)
  have q3 := ExtW.cell (v := .slice p3 S.keeps.length c3) (cell_of_heap hn 3)
  have q4 := ExtW.cell (v := .int .i64 S.changes) (cell_of_heap hn 4)
  have HW := Lib.hid (fun x : ExtW W => ExtW.call (works07 x.w))
  have HR := Lib.hid (fun x : ExtW W => ExtW.call (ready07 _ S x.w (SwapV.mono _ _ _ _ (hE.trans x.h) HV.out) hM))
  have HFAR := fun x : ExtW W => RetQ.e (farLists07 p L c x.w hl HR9.out (hp.ext (hE.trans x.h)))
  have HPW := Lib.hid (hp.ext hE)
  obtain ⟨x0, hx0⟩ := ExtW.of (Ext.refl W)
  clear hW hn hp
  conv => arg 5; rw [hx0]
  clear hx0
  by_cases hR : Ready S
  case neg =>
    rw [bP_f hR] at HR
    clear hR HFAR
    go_wp2_with fail
    refine (HR.out _).mono ?_
    rintro e _ ⟨rfl, x1, rfl⟩
    go_wp2_with fail
    refine (HW.out _).mono ?_
    rintro e _ ⟨rfl, x2, rfl⟩
    go_wp2
    go_ret
    exact RetE.fin (hE.trans x2.h) rfl
  rw [bP_t hR] at HR
  obtain ⟨hS, -, -⟩ := hR
  have HS := Lib.hid hS
  have hb3 := hS.boxes
  clear hS
  by_cases hfar : FarL L
  · have HFA0 : ∀ x : ExtW W, _ := fun x : ExtW W => ExtW.call (HFAR x)
    rw [bP_t hfar] at HFA0
    have HFA := Lib.hid HFA0
    clear hfar HFA0 HFAR
    go_wp2_with fail
    refine (HR.out _).mono ?_
    rintro e _ ⟨rfl, x1, rfl⟩
    go_wp2_with fail
    refine (HFA.out _).mono ?_
    rintro e _ ⟨rfl, x5, rfl⟩
    go_wp2_with fail
    refine (HW.out _).mono ?_
    rintro e _ ⟨rfl, x6, rfl⟩
    go_wp2
    go_ret
    exact RetE.fin (hE.trans x6.h) rfl
  obtain ⟨hl40, hr40⟩ := not_far hfar
  have HFA0 : ∀ x : ExtW W, _ := fun x : ExtW W => ExtW.call (HFAR x)
  rw [bP_f hfar] at HFA0
  have HFA := Lib.hid HFA0
  have HR40 := Lib.hid hr40
  clear hfar HFA0 HFAR hr40
  have HIP0 : ∀ x : ExtW W, _ := fun x : ExtW W => ExtW.call (IsPlan07 _ S p L c x.w (SwapV.mono _ _ _ _ (hE.trans x.h) HV.out) (modest_of_valid HS.out) (HPW.out.ext x.h) (by omega) (fun i h => by have := HR40.out i h; omega))
  by_cases hpl : IsPlan S L
  case neg =>
    rw [bP_f hpl] at HIP0
    have HIP := Lib.hid HIP0
    clear hpl HIP0
    go_wp2_with fail
    refine (HR.out _).mono ?_
    rintro e _ ⟨rfl, x1, rfl⟩
    go_wp2_with fail
    refine (HFA.out _).mono ?_
    rintro e _ ⟨rfl, x5, rfl⟩
    go_wp2_with fail
    refine (HIP.out _).mono ?_
    rintro e _ ⟨rfl, x5, rfl⟩
    go_wp2_with fail
    refine (HW.out _).mono ?_
    rintro e _ ⟨rfl, x6, rfl⟩
    go_wp2
    go_ret
    exact RetE.fin (hE.trans x6.h) rfl
  rw [bP_t hpl] at HIP0
  have HIP := Lib.hid HIP0
  have HPL := Lib.hid hpl
  clear hpl HIP0
  have HB0 : ∀ x : ExtW W, _ := fun x : ExtW W => ExtW.call (Best07 _ S x.w (SwapV.mono _ _ _ _ (hE.trans x.h) HV.out) (modest_of_valid HS.out))
  rw [ansV_t HS.out] at HB0
  have HDF0 : ∀ x : ExtW W, _ := fun x : ExtW W => (DoesFit07 _ S p L c x.w (SwapV.mono _ _ _ _ (hE.trans x.h) HV.out) HS.out (HPW.out.ext x.h) HPL.out.1 (fun i h => by have := HR40.out i h; omega))
  have HCA := Lib.hid (fun (x : World) (hx : Ext W x) => CloneLists07x x p L c hx (by omega) (fun i h => by have := HR40.out i h; omega) (HPW.out.ext hx))
  have HCB := Lib.hid (fun (x : World) (hx : Ext W x) => CloneLists07x x p0 S.boxes c0 hx (by omega) (fun i h => by have := (HS.out.box i h).1; omega) ((H0.out.ext hE).ext hx))
  have HFI0 := (fun (x : ExtW W) q cap (hq : ListsAt x.w q L) => Fits07x x.w _ S q cap L x.h (SwapV.mono _ _ _ _ (hE.trans x.h) HV.out) HS.out HPL.out hq)
  have HFN0 := (fun (x : ExtW W) q cap (hq : ListsAt x.w q S.boxes) => Fits07x x.w _ S q cap S.boxes x.h (SwapV.mono _ _ _ _ (hE.trans x.h) HV.out) HS.out (fit_boxes HS.out).1 hq)
  rw [bP_t (fit_boxes HS.out).2] at HFN0
  have HFN := Lib.hid HFN0
  have HAL := Lib.hid (fun (x : ExtW W) => Always07x x.w _ S x.h (SwapV.mono _ _ _ _ (hE.trans x.h) HV.out) HS.out)
  have hal18 := alwL_len S hb3
  obtain ⟨A, hA⟩ : ∃ A, A = alwL S := ⟨_, rfl⟩
  obtain ⟨m, hm⟩ : ∃ m, m = bestN (openV S) := ⟨_, rfl⟩
  rw [← hA] at HAL hal18
  rw [← hm] at HB0
  have HB := Lib.hid HB0
  have HA := Lib.hid hA
  have HM := Lib.hid hm
  clear HB0 HFN0 hA hm
  by_cases hft : FitP S L
  case neg =>
    rw [bP_f hft] at HDF0 HFI0
    have HDF := Lib.hid (fun x => ExtW.call (HDF0 x))
    have HFI := Lib.hid HFI0
    clear hft HDF0 HFI0
    go_wp2_with fail
    refine (HR.out _).mono ?_
    rintro e _ ⟨rfl, x1, rfl⟩
    go_wp2_with fail
    refine (HFA.out _).mono ?_
    rintro e _ ⟨rfl, x2, rfl⟩
    go_wp2_with fail
    refine (HIP.out _).mono ?_
    rintro e _ ⟨rfl, x3, rfl⟩
    go_upto_region 3 with (fail)
    go_region_with (first
      | (go_at_call 30; refine (HCA.out _ (by repeat (first | exact x3.h | refine Ext.drew ?_))).mono ?_; rintro e _ ⟨q5, cap5, rfl, x4, rfl, hq5⟩; have HQ5 := Lib.hid hq5; clear hq5)
      | (go_at_call 33; refine (HFI.out x4 q5 cap5 HQ5.out).mono ?_; rintro e _ ⟨rfl, x5, rfl⟩))
    all_goals
      go_upto_region 4 with (fail)
      go_region_with (first
        | (go_at_call 30; refine (HCB.out _ (by repeat (first | exact x5.h | refine Ext.drew ?_))).mono ?_; rintro e _ ⟨q6, cap6, rfl, x6, rfl, hq6⟩; have HQ6 := Lib.hid hq6; clear hq6)
        | (go_at_call 33; refine (HFN.out x6 q6 cap6 HQ6.out).mono ?_; rintro e _ ⟨rfl, x7, rfl⟩))
    all_goals
      go_wp2_with fail
      refine (HB.out _).mono ?_
      rintro e _ ⟨rfl, x8, rfl⟩
      go_wp2_with fail
      refine (HAL.out _).mono ?_
      rintro e _ ⟨pa, ca, rfl, x9, rfl, hpa⟩
      have HPA := Lib.hid hpa
      clear hpa
      go_wp2_with fail
      refine (HDF.out _).mono ?_
      rintro e _ ⟨rfl, x10, rfl⟩
      go_wp2_with fail
      refine (HW.out _).mono ?_
      rintro e _ ⟨rfl, x11, rfl⟩
      go_wp2
      go_ret
      exact RetE.fin (hE.trans x11.h) rfl
  rw [bP_t hft] at HDF0 HFI0
  have HDF := Lib.hid HDF0
  have HFI := Lib.hid HFI0
  obtain ⟨f1, f2, f3, f4, f5⟩ := plan_facts HS.out HPL.out hft
  have HEA0 := (fun x : ExtW W => (EarnsAll07 _ S p L c x.w (SwapV.mono _ _ _ _ (hE.trans x.h) HV.out) HS.out (HPW.out.ext x.h) (by have := HPL.out.1; omega) HR40.out (fun i h t ht => (HPL.out.2 i h).2.mem t ht)))
  have HCH0 := (fun x : ExtW W => (AllChanges07 _ S p L c x.w (SwapV.mono _ _ _ _ (hE.trans x.h) HV.out) (modest_of_valid HS.out) (HPW.out.ext x.h) (by have := HPL.out.1; omega) hl40 HR40.out))
  have HFW0 : ∀ x : ExtW W, _ := (fun x : ExtW W => (Fewest07 _ S (earnsAll S L) x.w (SwapV.mono _ _ _ _ (hE.trans x.h) HV.out) (modest_of_valid HS.out)))
  rw [fewV_plan HS.out HPL.out hft] at HFW0
  have HIN0 : earnsAll S L = bestN (openV S) → ∀ i (hi : i < A.length), 0 ≤ A[i].1 ∧ A[i].1 < S.boxes.length ∧ A[i].2 ∈ L.getD A[i].1.toNat [] := by
    have hA' := HA.out
    subst hA'
    exact fun h i hi => alw_in HS.out HPL.out hft h i hi
  rw [← HM.out] at HIN0
  rw [← HM.out] at f2 f3
  obtain ⟨E, hEE⟩ : ∃ E, E = earnsAll S L := ⟨_, rfl⟩
  rw [← hEE] at HEA0 HFW0 f1 f2 f4 f5 HIN0
  obtain ⟨n, hn⟩ : ∃ n, n = fewOf (openV S) E (allP (openV S)) := ⟨_, rfl⟩
  rw [← hn] at HFW0 f4 f5
  obtain ⟨C, hC⟩ : ∃ C, C = chAll S.boxes L := ⟨_, rfl⟩
  rw [← hC] at HCH0 f5
  have HEA := Lib.hid HEA0
  have HCH := Lib.hid HCH0
  have HFW := Lib.hid HFW0
  have HIN := Lib.hid HIN0
  have hn0 : decide (n < 0) = false := by simpa using f4
  have hnC : decide ((C : Int) < n) = false := by simpa using f5
  have hmE : decide (m < E) = false := by simpa using f2
  have HLL := Lib.hid HPL.out.1
  clear hft HDF0 HFI0 HEA0 HCH0 HFW0 HIN0 hEE hn hC f1 f2 f3 f4 f5
  go_wp2_with fail
  refine (HR.out _).mono ?_
  rintro e _ ⟨rfl, x1, rfl⟩
  go_wp2_with fail
  refine (HFA.out _).mono ?_
  rintro e _ ⟨rfl, x2, rfl⟩
  go_wp2_with fail
  refine (HIP.out _).mono ?_
  rintro e _ ⟨rfl, x3, rfl⟩
  go_upto_region 3 with (fail)
  go_region_with (first
    | (go_at_call 30; refine (HCA.out _ (by repeat (first | exact x3.h | refine Ext.drew ?_))).mono ?_; rintro e _ ⟨q5, cap5, rfl, x4, rfl, hq5⟩; have HQ5 := Lib.hid hq5; clear hq5)
    | (go_at_call 33; refine (HFI.out x4 q5 cap5 HQ5.out).mono ?_; rintro e _ ⟨rfl, x5, rfl⟩))
  all_goals
    go_upto_region 4 with (fail)
    go_region_with (first
      | (go_at_call 30; refine (HCB.out _ (by repeat (first | exact x5.h | refine Ext.drew ?_))).mono ?_; rintro e _ ⟨q6, cap6, rfl, x6, rfl, hq6⟩; have HQ6 := Lib.hid hq6; clear hq6)
      | (go_at_call 33; refine (HFN.out x6 q6 cap6 HQ6.out).mono ?_; rintro e _ ⟨rfl, x7, rfl⟩))
  all_goals
    go_wp2_with fail
    refine (HB.out _).mono ?_
    rintro e _ ⟨rfl, x8, rfl⟩
    go_wp2_with fail
    refine (HAL.out _).mono ?_
    rintro e _ ⟨pa, ca, rfl, x9, rfl, hpa⟩
    have HPA := Lib.hid hpa
    clear hpa
    go_wp2_with fail
    refine (HDF.out x9).mono ?_
    rintro e w10 ⟨rfl, hE10⟩
    replace HPA := Lib.hid (HPA.out.ext hE10)
    obtain ⟨x10, rfl⟩ := ExtW.of (x9.h.trans hE10)
    clear hE10
    go_wp2_with fail
    refine (HEA.out x10).mono ?_
    rintro e w11 ⟨rfl, hE11⟩
    replace HPA := Lib.hid (HPA.out.ext hE11)
    obtain ⟨x11, rfl⟩ := ExtW.of (x10.h.trans hE11)
    clear hE11
    go_wp2_with fail
    refine (HFW.out x11).mono ?_
    rintro e w12 ⟨rfl, hE12⟩
    replace HPA := Lib.hid (HPA.out.ext hE12)
    obtain ⟨x12, rfl⟩ := ExtW.of (x11.h.trans hE12)
    clear hE12
    go_wp2_with fail
    refine (HCH.out x12).mono ?_
    rintro e w13 ⟨rfl, hE13⟩
    replace HPA := Lib.hid (HPA.out.ext hE13)
    obtain ⟨x13, rfl⟩ := ExtW.of (x12.h.trans hE13)
    clear hE13
    go_upto_region 16 with (fail)
    by_cases hEm : E = m
    · have hEm' : (E == m) = true := by simpa using hEm
      have HI2 := Lib.hid (HIN.out hEm)
      clear hEm
      go_loopw [16] (fun i wr => ∃ k : Nat, k ≤ A.length ∧ i = .int .i64 k ∧ ∃ y : ExtW x13.w, wr = y.w) (fun i _ => A.length - (intOf i).toNat)
      case atStart => exact ⟨0, by omega, rfl, ⟨_, Ext.refl _⟩, rfl⟩
      case round =>
        obtain ⟨k, hk, rfl, y, rfl⟩ := hrel
        by_cases hlt : k < A.length
        · obtain ⟨ba, oa, rfl, ca1, ca2⟩ := HPA.out k hlt
          obtain ⟨g1, g2, g3⟩ := HI2.out k hlt
          obtain ⟨bx, hbx⟩ : ∃ bx, bx = A[k].1 := ⟨_, rfl⟩
          obtain ⟨tt, htt⟩ : ∃ tt, tt = A[k].2 := ⟨_, rfl⟩
          rw [← hbx] at ca1 g1 g2 g3
          rw [← htt] at ca2 g3
          clear hbx htt
          obtain ⟨bn, rfl⟩ := Int.eq_ofNat_of_zero_le g1
          have hbl : bn < L.length := by have := HLL.out; omega
          obtain ⟨b3, o3, q', c', rfl, hc3, hq'⟩ := (HPW.out.ext x13.h).at bn hbl
          rw [Int.toNat_natCast, getD_of_lt _ _ _ hbl] at g3
          have s1 := ExtW.cell ca1
          have s2 := ExtW.cell ca2
          have s3 := ExtW.cell hc3
          have hlk := HR40.out bn hbl
          have HI3 := fun z : ExtW x13.w => ExtW.call (RetQ.e (RetQ.bt g3 (In01 q' L[bn] c' tt z.w (by omega) (hq'.ext z.h))))
          obtain ⟨n2, hn2⟩ : ∃ n, n = L[bn].length := ⟨_, rfl⟩
          rw [← hn2] at s3 HI3
          have HI4 := Lib.hid HI3
          have hbL : (bn : Int) < (L.length : Int) := by omega
          have hg1 : decide ((bn : Int) < 0) = false := by simp
          have hg2 : decide ((L.length : Int) ≤ (bn : Int)) = false := by simp; omega
          have hg3 : decide (L.length ≤ bn) = false := by simp; omega
          have hg4 : decide ((bn : Int) < (L.length : Int)) = true := by simp; omega
          have hg5 : decide (bn < L.length) = true := by simp; omega
          clear ca1 ca2 hc3 hq' g1 g2 g3 HI3 hn2 hlk
          go_upto_region 18 with (fail)
          refine wp_region_extW (by kernel_rfl) (by kernel_rfl) ?_
          repeat (go_big_quiet_step ((go_at_call 46; exact HI4.out _)))
          refine wpQuiet_nil ?_
          rintro _ ⟨y2, rfl⟩
          go_wp2
          go_roundw
          case rel => exact ⟨k + 1, by omega, by go_num, y2, rfl⟩
          case measure => simp [intOf]; omega
        · obtain rfl : k = A.length := by omega
          go_wp2_with fail
          refine (HW.out ⟨y.w, x13.h.trans y.h⟩).mono ?_
          rintro e _ ⟨rfl, y3, rfl⟩
          go_wp2
          go_ret
          exact RetE.fin (hE.trans y3.h) rfl
    · have hEm' : (E == m) = false := by simpa using hEm
      clear hEm
      go_loopw [16] (fun i wr => i = .int .i64 0 ∧ wr = x13.w) (fun _ _ => 0)
      case atStart => exact ⟨rfl, rfl⟩
      case round =>
        obtain ⟨rfl, rfl⟩ := hrel
        by_cases hA0 : A.length = 0
        · have hA1 : (A.length : Int) = 0 := by omega
          clear hA0
          go_wp2_with fail
          refine (HW.out _).mono ?_
          rintro e _ ⟨rfl, y3, rfl⟩
          go_wp2
          go_ret
          exact RetE.fin (hE.trans y3.h) rfl
        · have hA1 : 0 < A.length := by omega
          clear hA0
          go_wp2_with fail
          refine (HW.out _).mono ?_
          rintro e _ ⟨rfl, y3, rfl⟩
          go_wp2
          go_ret
          exact RetE.fin (hE.trans y3.h) rfl
end Go.Proofs.Ytpgjkmjejpfkmaa
