/- The walk of SwapsPlan. -/
import Derived.Test.YtpgjkmjejpfkmaaWEach
import Derived.Test.YtpgjkmjejpfkmaaA07d
namespace Go.Proofs.Ytpgjkmjejpfkmaa
open Go.RowKit

theorem Plan07x {W : World} (x : World) (v : Value) (S : Swap) (hx : Ext W x) (hv : SwapV x v S) (hS : Valid S) :
    Calls Try.prog 51 #[v] x (fun e w' => ∃ p c, e = .returned (.tuple #[.slice p (bestP S).length c, .int .i64 0]) ∧ ∃ y : ExtW W, w' = y.w ∧ ListsAt y.w p (bestP S)) := by
  refine (Plan07 v S x hv (modest_of_valid hS)).mono ?_
  rintro e w' (⟨-, u, rfl, ⟨p, c, rfl, hp⟩, hE⟩ | ⟨h, -⟩)
  · exact ⟨p, c, rfl, ⟨w', hx.trans hE⟩, rfl, hp⟩
  · exact absurd hS h

theorem CloneLists07y {W : World} (x : World) (p : Option Addr) (l : List (List Int)) (c0 : Nat) (hx : Ext W x) (hl : l.length ≤ 1000) (hr : ∀ i (h : i < l.length), l[i].length ≤ 1000) (hp : ListsAt x p l) :
    Calls Try.prog 30 #[.slice p l.length c0] x (fun e w' => ∃ q cap, e = .returned (.slice q l.length cap) ∧ ∃ y : ExtW W, w' = y.w ∧ ListsAt y.w q l ∧ Ext x y.w) := by
  refine (CloneLists07x (W := x) x p l c0 (Ext.refl x) hl hr hp).mono ?_
  rintro e w' ⟨q, cap, rfl, y, rfl, hq⟩
  exact ⟨q, cap, rfl, ⟨y.w, hx.trans y.h⟩, rfl, hq, y.h⟩
theorem Earns07y {W : World} (x : World) (v : Value) (S : Swap) (pp : Option Addr) (pc : Nat) (L : List (List Int)) (hx : Ext W x) (hv : SwapV x v S) (hS : Valid S) (hP : IsPlan S L) (hL : ListsAt x pp L) (hLl : L.length ≤ 100000) (hLr : ∀ i (h : i < L.length), L[i].length ≤ 100000) :
    Calls Try.prog 35 #[v, .slice pp L.length pc] x (fun e w' => ∃ p c, e = .returned (.tuple #[.slice p S.boxes.length c, .int .i64 (sumTo (openV S) (planTo L L.length) S.boxes.length), .int .i64 0]) ∧ ∃ y : ExtW W, w' = y.w ∧ Ext x y.w) := by
  refine (Earns07x (W := x) x v S pp pc L (Ext.refl x) hv hS hP hL hLl hLr).mono ?_
  rintro e w' ⟨q, cap, rfl, y, rfl, hq⟩
  exact ⟨q, cap, rfl, ⟨y.w, hx.trans y.h⟩, rfl, y.h⟩
theorem Fits07y {W : World} (x : World) (v : Value) (S : Swap) (pp : Option Addr) (pc : Nat) (L : List (List Int)) (hx : Ext W x) (hv : SwapV x v S) (hS : Valid S) (hP : IsPlan S L) (hL : ListsAt x pp L) :
    Calls Try.prog 33 #[v, .slice pp L.length pc] x (fun e w' => e = .returned (.tuple #[.bool (bP (FitP S L)), .int .i64 0]) ∧ ∃ y : ExtW W, w' = y.w ∧ Ext x y.w) := by
  refine (Fits07x (W := x) x v S pp pc L (Ext.refl x) hv hS hP hL).mono ?_
  rintro e w' ⟨rfl, y, rfl⟩
  exact ⟨rfl, ⟨y.w, hx.trans y.h⟩, rfl, y.h⟩

set_option maxRecDepth 100000 in
set_option maxHeartbeats 8000000 in
theorem SwapsPlan07 (v : Value) (S : Swap) (w : World) (hv : SwapV w v S) (hM : Big S) :
    Calls Try.prog 13 #[v] w (RetE (.bool true) w) := by
  have HV := Lib.hid hv
  obtain ⟨p0, c0, p1, c1, p2, c2, p3, c3, rfl, h0, h1, h2, h3⟩ := hv
  clear h0 h1 h2 h3
  go_enter Try.func13, Try.ntmps13
  go_upto_region 1 with (fail)
  have hn := heap_new w (.cells #[.slice p0 S.boxes.length c0, .slice p1 S.stock.length c1, .slice p2 S.earn.length c2, .slice p3 S.keeps.length c3, .int .i64 S.changes] 26)
  obtain ⟨W, hW⟩ : ∃ W, W = w.alloc (.cells #[.slice p0 S.boxes.length c0, .slice p1 S.stock.length c1, .slice p2 S.earn.length c2, .slice p3 S.keeps.length c3, .int .i64 S.changes] 26) := ⟨_, rfl⟩
  have hE : Ext w W := by rw [hW]; exact Ext.alloc (Ext.refl w) _
  rw [← hW] at hn ⊢
  have q0 := ExtW.cell (v := .slice p0 S.boxes.length c0) (cell_of_heap hn 0)
  have q1 := ExtW.cell (v := .slice p1 S.stock.length c1) (cell_of_heap hn 1)
  have q2 := ExtW.cell (v := .slice p2 S.earn.length c2) (cell_of_heap hn 2)
  have q3 := ExtW.cell (v := .slice p3 S.keeps.length c3) (cell_of_heap hn 3)
  have q4 := ExtW.cell (v := .int .i64 S.changes) (cell_of_heap hn 4)
  have HW := Lib.hid (fun x : ExtW W => ExtW.call (works07 x.w))
  have HR := Lib.hid (fun x : ExtW W => ExtW.call (ready07 _ S x.w (SwapV.mono _ _ _ _ (hE.trans x.h) HV.out) hM))
  obtain ⟨x0, hx0⟩ := ExtW.of (Ext.refl W)
  clear hW hn
  conv => arg 5; rw [hx0]
  clear hx0
  by_cases hR : Ready S
  case neg =>
    rw [bP_f hR] at HR
    clear hR
    go_wp2_with fail
    refine (HR.out _).mono ?_
    rintro e _ ⟨rfl, x1, rfl⟩
    go_wp2_with fail
    refine (HW.out _).mono ?_
    rintro e _ ⟨rfl, x2, rfl⟩
    go_wp2
    go_ret
    exact RetE.fin (hE.trans x2.h) rfl
  rw [bP_t hR] at HR
  obtain ⟨hS, -, -⟩ := hR
  have HS := Lib.hid hS
  have hb3 := hS.boxes
  obtain ⟨b1, b2, b3, b4⟩ := best_plan hS
  have HPN := Lib.hid (fun (x : ExtW W) => Plan07x x.w _ S x.h (SwapV.mono _ _ _ _ (hE.trans x.h) HV.out) HS.out)
  have hrow := b1.row_le hS
  have hso := alwL_sorted S
  have hai := alw_in hS b1 b2 b3
  clear hS
  obtain ⟨L, hL⟩ : ∃ L, L = bestP S := ⟨_, rfl⟩
  rw [← hL] at b1 b2 b3 b4 HPN hrow hai
  have hlen := b1.1
  have hl3 : L.length ≤ 3 := by omega
  have HPL := Lib.hid b1
  have HROW := Lib.hid hrow
  have hnf : ¬FarL L := by
    rintro (h | ⟨l, hl, h⟩)
    · omega
    · obtain ⟨i, hi, rfl⟩ := List.getElem_of_mem hl
      have := HROW.out i hi
      omega
  have HFAR0 := fun (x : World) (hx : Ext W x) p c (hp : ListsAt x p L) => RetQ.e (RetQ.bf hnf (farLists07 p L c x (by omega) (fun l hl => by obtain ⟨i, hi, rfl⟩ := List.getElem_of_mem hl; have := HROW.out i hi; omega) hp))
  have HIP0 := fun (x : ExtW W) p c (hp : ListsAt x.w p L) => RetE.bt b1 (IsPlan07 _ S p L c x.w (SwapV.mono _ _ _ _ (hE.trans x.h) HV.out) (modest_of_valid HS.out) hp (by omega) (fun i h => by have := HROW.out i h; omega))
  have HB0 : ∀ x : ExtW W, _ := fun x : ExtW W => (Best07 _ S x.w (SwapV.mono _ _ _ _ (hE.trans x.h) HV.out) (modest_of_valid HS.out))
  rw [ansV_t HS.out] at HB0
  have HCL := Lib.hid (fun (x : World) (hx : Ext W x) p c (hp : ListsAt x p L) => CloneLists07y x p L c hx (by omega) (fun i h => by have := HROW.out i h; omega) hp)
  have HEA0 := (fun (x : World) (hx : Ext W x) q cap (hq : ListsAt x q L) => Earns07y x _ S q cap L hx (SwapV.mono _ _ _ _ (hE.trans hx) HV.out) HS.out HPL.out hq (by omega) (fun i h => by have := HROW.out i h; omega))
  have HFI0 := (fun (x : World) (hx : Ext W x) q cap (hq : ListsAt x q L) => Fits07y x _ S q cap L hx (SwapV.mono _ _ _ _ (hE.trans hx) HV.out) HS.out HPL.out hq)
  rw [bP_t b2] at HFI0
  rw [b4] at HEA0
  have HAL0 := (fun (x : ExtW W) => Always07x (W := x.w) x.w _ S (Ext.refl x.w) (SwapV.mono _ _ _ _ (hE.trans x.h) HV.out) HS.out)
  have hal18 := alwL_len S hb3
  obtain ⟨A, hA⟩ : ∃ A, A = alwL S := ⟨_, rfl⟩
  obtain ⟨m, hm⟩ : ∃ m, m = bestN (openV S) := ⟨_, rfl⟩
  have HAI : Hid (∀ i (hi : i < A.length), 0 ≤ A[i].1 ∧ A[i].1 < S.boxes.length ∧ A[i].2 ∈ L.getD A[i].1.toNat []) := by
    subst hA
    exact hai
  have HSO : Hid (∀ i (hi : i + 1 < A.length), ltK A[i] A[i + 1]) := by
    subst hA
    exact hso
  rw [← hA] at HAL0 hal18
  rw [← hm] at HB0 HEA0
  have HB := Lib.hid HB0
  have HEA := Lib.hid HEA0
  have HFI := Lib.hid HFI0
  have HAL := Lib.hid HAL0
  have HFAR := Lib.hid HFAR0
  have HIP := Lib.hid HIP0
  have HLEN := Lib.hid hlen
  clear HB0 HEA0 HFI0 HAL0 HFAR0 HIP0 b1 b2 b3 b4 hrow hso hai hA hm hL hnf hlen
  go_wp2_with fail
  refine (HR.out _).mono ?_
  rintro e _ ⟨rfl, x1, rfl⟩
  go_wp2_with fail
  refine (HPN.out _).mono ?_
  rintro e _ ⟨pp, cp, rfl, x2, rfl, hpp⟩
  go_wp2_with fail
  refine (HB.out x2).mono ?_
  rintro e w3 ⟨rfl, hE3⟩
  replace hpp := hpp.ext hE3
  obtain ⟨x3, rfl⟩ := ExtW.of (x2.h.trans hE3)
  clear hE3
  have HPP := Lib.hid hpp
  clear hpp
  go_wp2_with fail
  refine (HAL.out x3).mono ?_
  rintro e _ ⟨pa, ca, rfl, z4, rfl, hpa⟩
  replace HPP := Lib.hid (HPP.out.ext z4.h)
  have HPA := Lib.hid hpa
  obtain ⟨x4, hx4⟩ := ExtW.of (x3.h.trans z4.h)
  rw [hx4] at HPP HPA ⊢
  clear hpa hx4
  go_wp2_with fail
  refine (HFAR.out x4.w x4.h _ _ HPP.out).mono ?_
  rintro e w5 ⟨rfl, hE5⟩
  replace HPP := Lib.hid (HPP.out.ext hE5)
  replace HPA := Lib.hid (HPA.out.ext hE5)
  obtain ⟨x5, rfl⟩ := ExtW.of (x4.h.trans hE5)
  clear hE5
  go_wp2_with fail
  refine (HIP.out x5 _ _ HPP.out).mono ?_
  rintro e w6 ⟨rfl, hE6⟩
  replace HPP := Lib.hid (HPP.out.ext hE6)
  replace HPA := Lib.hid (HPA.out.ext hE6)
  obtain ⟨x6, rfl⟩ := ExtW.of (x5.h.trans hE6)
  clear hE6
  go_upto_region 8 with (fail)
  go_region_with (first
    | (go_at_call 30; refine (HCL.out _ (by repeat (first | exact x6.h | refine Ext.drew ?_)) _ _ (HPP.out.ext (by repeat (first | exact Ext.refl _ | refine Ext.drew ?_)))).mono ?_; rintro e _ ⟨q7, cap7, rfl, x7, rfl, hq7, hE7⟩; have HQ7 := Lib.hid hq7; have HPP7 := Lib.hid (HPP.out.ext (Ext.trans (by repeat (first | exact Ext.refl _ | refine Ext.drew ?_)) hE7)); have HPA7 := Lib.hid (HPA.out.ext (Ext.trans (by repeat (first | exact Ext.refl _ | refine Ext.drew ?_)) hE7)); clear hq7 hE7)
    | (go_at_call 35; refine (HEA.out x7.w x7.h q7 cap7 HQ7.out).mono ?_; rintro e _ ⟨p8, cap8, rfl, x8, rfl, hE8⟩; have HPP8 := Lib.hid (HPP7.out.ext hE8); have HPA8 := Lib.hid (HPA7.out.ext hE8); clear hE8))
  all_goals
    clear HPP HPA HPP7 HPA7 HQ7
    go_upto_region 9 with (fail)
    go_region_with (first
      | (go_at_call 30; refine (HCL.out _ (by repeat (first | exact x8.h | refine Ext.drew ?_)) _ _ (HPP8.out.ext (by repeat (first | exact Ext.refl _ | refine Ext.drew ?_)))).mono ?_; rintro e _ ⟨q9, cap9, rfl, x9, rfl, hq9, hE9⟩; have HQ9 := Lib.hid hq9; have HPP9 := Lib.hid (HPP8.out.ext (Ext.trans (by repeat (first | exact Ext.refl _ | refine Ext.drew ?_)) hE9)); have HPA9 := Lib.hid (HPA8.out.ext (Ext.trans (by repeat (first | exact Ext.refl _ | refine Ext.drew ?_)) hE9)); clear hq9 hE9)
      | (go_at_call 33; refine (HFI.out x9.w x9.h q9 cap9 HQ9.out).mono ?_; rintro e _ ⟨rfl, x10, rfl, hE10⟩; have HPP := Lib.hid (HPP9.out.ext hE10); have HPA := Lib.hid (HPA9.out.ext hE10); clear hE10))
  all_goals
    clear HPP8 HPA8 HPP9 HPA9 HQ9
    go_upto_region 13 with (fail)
    go_loopw [14] (fun i wr => ∃ k : Nat, k ≤ A.length ∧ i = .int .i64 k ∧ ∃ y : ExtW x10.w, wr = y.w) (fun i _ => A.length - (intOf i).toNat)
    case atStart => exact ⟨0, by omega, rfl, ⟨_, Ext.refl _⟩, rfl⟩
    case round =>
      obtain ⟨k, hk, rfl, y, rfl⟩ := hrel
      by_cases hlt : k < A.length
      · obtain ⟨ba, oa, rfl, ca1, ca2⟩ := HPA.out k hlt
        obtain ⟨g1, g2, g3⟩ := HAI.out k hlt
        have hprev : 0 < k → ∃ j : Nat, j + 1 = k ∧ ∃ b' t' : Int, x10.w.cell? ⟨ba, oa + j * 2, none⟩ = some (.int .i64 b') ∧ x10.w.cell? ⟨ba, oa + j * 2 + 1, none⟩ = some (.int .i64 t') ∧ ltK (b', t') A[k] := by
          intro h0
          obtain ⟨j, rfl⟩ : ∃ j, k = j + 1 := ⟨k - 1, by omega⟩
          obtain ⟨ba', oa', he, da1, da2⟩ := HPA.out j (by omega)
          cases he
          exact ⟨j, rfl, _, _, da1, da2, HSO.out j hlt⟩
        obtain ⟨bx, hbx⟩ : ∃ bx, bx = A[k].1 := ⟨_, rfl⟩
        obtain ⟨tt, htt⟩ : ∃ tt, tt = A[k].2 := ⟨_, rfl⟩
        have hAk : A[k] = (bx, tt) := by rw [hbx, htt]
        rw [hAk] at hprev
        rw [← hbx] at ca1 g1 g2 g3
        rw [← htt] at ca2 g3
        clear hbx htt hAk
        obtain ⟨bn, rfl⟩ := Int.eq_ofNat_of_zero_le g1
        have hbl : bn < L.length := by have := HLEN.out; omega
        obtain ⟨b3, o3, q', c', rfl, hc3, hq'⟩ := HPP.out.at bn hbl
        rw [Int.toNat_natCast, getD_of_lt _ _ _ hbl] at g3
        have s1 := ExtW.cell ca1
        have s2 := ExtW.cell ca2
        have s3 := ExtW.cell hc3
        have hlk := HROW.out bn hbl
        have HI3 := fun z : ExtW x10.w => ExtW.call (RetQ.e (RetQ.bt g3 (In01 q' L[bn] c' tt z.w (by omega) (hq'.ext z.h))))
        obtain ⟨n2, hn2⟩ : ∃ n, n = L[bn].length := ⟨_, rfl⟩
        rw [← hn2] at s3 HI3
        have HI4 := Lib.hid HI3
        have HPREV := Lib.hid hprev
        have hbL : (bn : Int) < (L.length : Int) := by omega
        have hg1 : decide ((bn : Int) < 0) = false := by simp
        have hg2 : decide ((L.length : Int) ≤ (bn : Int)) = false := by simp; omega
        have hg3 : decide (L.length ≤ bn) = false := by simp; omega
        have hg4 : decide ((bn : Int) < (L.length : Int)) = true := by simp; omega
        have hg5 : decide (bn < L.length) = true := by simp; omega
        clear ca1 ca2 hc3 hq' g1 g2 g3 HI3 hn2 hlk hprev
        go_upto_region 15 with (fail)
        refine wp_region_extW (by kernel_rfl) (by kernel_rfl) ?_
        repeat (go_big_quiet_step ((go_at_call 46; exact HI4.out _)))
        refine wpQuiet_nil ?_
        rintro _ ⟨y2, rfl⟩
        by_cases h0 : k = 0
        · subst h0
          have hk0 : decide ((0 : Int) < 0) = false := by decide
          go_upto_region 17 with (fail)
          refine wp_region_extW (by kernel_rfl) (by kernel_rfl) ?_
          repeat (go_big_quiet_step (fail))
          refine wpQuiet_nil ?_
          rintro _ ⟨y3, rfl⟩
          go_wp2
          go_roundw
          case rel => exact ⟨1, by omega, by go_num, y3, rfl⟩
          case measure => simp [intOf]; omega
        · have hk0 : decide ((0 : Int) < (k : Int)) = true := by simp; omega
          have hk1 : decide (0 < k) = true := by simp; omega
          have hk2 : 0 < k := by omega
          obtain ⟨j, hjk, b', t', da1, da2, hlk⟩ := HPREV.out (by omega)
          have s4 := ExtW.cell da1
          have s5 := ExtW.cell da2
          have hw : IntKind.i64.wrap ((k : Int) - 1) = (j : Int) := by
            rw [show (k : Int) - 1 = (j : Int) from by omega]
            exact IntWalk.i64_in _ (by omega)
          have hjA : (j : Int) < (A.length : Int) := by omega
          have hjA2 : j < A.length := by omega
          have HJK := Lib.hid hjk
          clear da1 da2 hjk HPREV h0
          rcases hlk with hx1 | ⟨hx1, hx2⟩
          · have e1 : decide ((bn : Int) < b') = false := by simp; exact Int.le_of_lt hx1
            have e2 : ((bn : Int) == b') = false := by rw [beq_eq_false_iff_ne]; intro h; have hx1' : b' < (bn : Int) := hx1; omega
            clear hx1
            go_upto_region 17 with (fail)
            refine wp_region_extW (by kernel_rfl) (by kernel_rfl) ?_
            repeat (go_big_quiet_step (fail))
            refine wpQuiet_nil ?_
            rintro _ ⟨y3, rfl⟩
            go_wp2
            go_roundw
            case rel => exact ⟨k + 1, by omega, by go_num, y3, rfl⟩
            case measure => simp [intOf]; omega
          · have hx1' : b' = (bn : Int) := hx1
            subst hx1'
            have hx2' : t' < tt := hx2
            have e1 : decide ((bn : Int) < (bn : Int)) = false := by simp
            have e2 : ((bn : Int) == (bn : Int)) = true := by simp
            have e3 : decide (tt ≤ t') = false := by simp; omega
            clear hx1 hx2 hx2'
            go_upto_region 17 with (fail)
            refine wp_region_extW (by kernel_rfl) (by kernel_rfl) ?_
            repeat (go_big_quiet_step (fail))
            refine wpQuiet_nil ?_
            rintro _ ⟨y3, rfl⟩
            go_wp2
            go_roundw
            case rel => exact ⟨k + 1, by omega, by go_num, y3, rfl⟩
            case measure => simp [intOf]; omega
      · obtain rfl : k = A.length := by omega
        go_wp2_with fail
        refine (HW.out ⟨y.w, x10.h.trans y.h⟩).mono ?_
        rintro e _ ⟨rfl, y3, rfl⟩
        go_wp2
        go_ret
        exact RetE.fin (hE.trans y3.h) rfl
end Go.Proofs.Ytpgjkmjejpfkmaa
