/- The walk of SwapsFair. -/
import Derived.Test.YtpgjkmjejpfkmaaL07j
import Derived.Test.YtpgjkmjejpfkmaaF07b
import Derived.Test.YtpgjkmjejpfkmaaR07d
import Derived.Deep.RegionWith
namespace Go.Proofs.Ytpgjkmjejpfkmaa
open Go.RowKit

theorem CloneLists07x {W : World} (x : World) (p : Option Addr) (l : List (List Int)) (c0 : Nat) (hx : Ext W x) (hl : l.length ≤ 1000) (hr : ∀ i (h : i < l.length), l[i].length ≤ 1000) (hp : ListsAt x p l) :
    Calls Try.prog 30 #[.slice p l.length c0] x (fun e w' => ∃ q cap, e = .returned (.slice q l.length cap) ∧ ∃ y : ExtW W, w' = y.w ∧ ListsAt y.w q l) := by
  refine (CloneLists07 p l c0 x hl hr hp).mono ?_
  rintro e w' ⟨v, g, c, rfl, hE, hR⟩
  obtain ⟨q, cap, rfl, hq⟩ := hR.lists
  exact ⟨q, cap, rfl, ⟨w', hx.trans hE⟩, rfl, hq⟩

theorem not_far {L : List (List Int)} (h : ¬FarL L) : L.length ≤ 40 ∧ ∀ i (h : i < L.length), L[i].length ≤ 40 := by
  simp only [FarL, not_or, not_exists, not_and] at h
  refine ⟨by omega, fun i hi => ?_⟩
  have := h.2 _ (List.getElem_mem hi)
  omega

/-- Earns of a plan, read as numbers -/
theorem Earns07x {W : World} (x : World) (v : Value) (S : Swap) (pp : Option Addr) (pc : Nat) (L : List (List Int)) (hx : Ext W x) (hv : SwapV x v S) (hS : Valid S) (hP : IsPlan S L) (hL : ListsAt x pp L) (hLl : L.length ≤ 100000) (hLr : ∀ i (h : i < L.length), L[i].length ≤ 100000) :
    Calls Try.prog 35 #[v, .slice pp L.length pc] x (fun e w' => ∃ p c, e = .returned (.tuple #[.slice p S.boxes.length c, .int .i64 (sumTo (openV S) (planTo L L.length) S.boxes.length), .int .i64 0]) ∧ ∃ y : ExtW W, w' = y.w ∧ IntsAt y.w p (eL S (planTo L L.length) S.boxes.length)) := by
  refine (Earns07 v S pp pc L x hv (modest_of_valid hS) hL hLl hLr).mono ?_
  rintro e w' (⟨-, -, u, rfl, ⟨p, c, rfl, hi⟩, hE⟩ | ⟨-, h, -⟩ | ⟨h, -⟩)
  · refine ⟨p, c, ?_, ⟨w', hx.trans hE⟩, rfl, hi⟩
    rw [eL_len]
  · exact absurd hP h
  · exact absurd hS h

set_option maxRecDepth 100000 in
set_option maxHeartbeats 4000000 in
theorem SwapsFair07 (v : Value) (S : Swap) (p : Option Addr) (L : List (List Int)) (c : Nat) (w : World) (hv : SwapV w v S) (hM : Big S) (hp : ListsAt w p L) (hl : L.length ≤ 9223372036854775807) (hr : ∀ l ∈ L, l.length ≤ 9223372036854775807) :
    Calls Try.prog 9 #[v, .slice p L.length c] w (RetE (.bool true) w) := by
  have HV := Lib.hid hv
  have HR9 := Lib.hid hr
  obtain ⟨p0, c0, p1, c1, p2, c2, p3, c3, rfl, h0, h1, h2, h3⟩ := hv
  clear h0 h1 h2 h3 hr
  go_enter Try.func9, Try.ntmps9
  go_upto_region 1 with (fail)
  have hn := heap_new w (.cells #[.slice p0 S.boxes.length c0, .slice p1 S.stock.length c1, .slice p2 S.earn.length c2, .slice p3 S.keeps.length c3, .int .i64 S.changes] 26)
  obtain ⟨W, hW⟩ : ∃ W, W = w.alloc (.cells #[.slice p0 S.boxes.length c0, .slice p1 S.stock.length c1, .slice p2 S.earn.length c2, .slice p3 S.keeps.length c3, .int .i64 S.changes] 26) := ⟨_, rfl⟩
  have hE : Ext w W := by rw [hW]; exact Ext.alloc (Ext.refl w) _
  rw [← hW] at hn ⊢
  have q0 := ExtW.cell (v := .slice p0 S.boxes.length c0) (cell_of_heap hn 0)
  have q1 := ExtW.cell (v := .slice p1 S.stock.length c1) (cell_of_heap hn 1)
  have q2 := ExtW.cell (v := .slice p2 S.earn.length c2) (cell_of_heap hn 2)
  have q3 := ExtW.cell (v := .slice p3 S.keeps.length c3) (cell_of_heap hn 3)
  have q4 := ExtW.cell (v := .int .i64 S.changes) (cell_of_heap hn 4)
  have HW := Lib.hid (fun x : ExtW W => ExtW.call (works07 x.w))
  have HR := Lib.hid (fun x : ExtW W => ExtW.call (ready07 _ S x.w (SwapV.mono _ _ _ _ (hE.trans x.h) HV.out) hM))
  have HFAR := fun x : ExtW W => RetQ.e (farLists07 p L c x.w hl HR9.out (hp.ext (hE.trans x.h)))
  have HPW := Lib.hid (hp.ext hE)
  obtain ⟨x0, hx0⟩ := ExtW.of (Ext.refl W)
  clear hW hn hp
  conv => arg 5; rw [hx0]
  clear hx0
  by_cases hR : Ready S
  · rw [bP_t hR] at HR
    obtain ⟨hS, -, -⟩ := hR
    have HS := Lib.hid hS
    have hb3 := hS.boxes
    have HB0 : ∀ x : ExtW W, _ := fun x : ExtW W => ExtW.call (Best07 _ S x.w (SwapV.mono _ _ _ _ (hE.trans x.h) HV.out) (modest_of_valid hS))
    rw [ansV_t hS] at HB0
    have HB := Lib.hid HB0
    have HF0 : ∀ x : ExtW W, _ := fun x : ExtW W => ExtW.call (Fair07 _ S x.w (SwapV.mono _ _ _ _ (hE.trans x.h) HV.out) (modest_of_valid hS))
    have HK := Lib.hid (fun (x : ExtW W) => ExtW.call (known07 0 (Or.inl rfl) x.w))
    have HK3 := Lib.hid (fun (x : ExtW W) => ExtW.call (known07 3 (Or.inr rfl) x.w))
    obtain ⟨f1, f2, f3, f4, f5⟩ := fair_best hS
    have HFG := Lib.hid (fair_ge (openV S) (allP (openV S)))
    clear HB0 hS
    obtain ⟨m, hm⟩ : ∃ m, m = bestN (openV S) := ⟨_, rfl⟩
    rw [← hm] at HB f3 f4 f5
    by_cases hz : S.boxes.length = 0
    · have hfv : fairV S = .tuple #[.int .i64 0, .int .i64 3] := by simp [fairV, bP_t HS.out, hz]
      rw [hfv] at HF0
      have HF := Lib.hid HF0
      have hz' : ((S.boxes.length : Int) == 0) = true := by simp [hz]
      have hz2 : IntKind.i64.wrap (0 * (S.boxes.length : Int)) = 0 := by rw [Int.zero_mul]; rfl
      have hmm : decide (m < 0) = false := by simpa using f3
      clear hfv HF0 f1 f2 f5 hm hz
      go_wp2_with fail
      refine (HR.out _).mono ?_
      rintro e _ ⟨rfl, x1, rfl⟩
      go_wp2_with fail
      refine (HF.out _).mono ?_
      rintro e _ ⟨rfl, x2, rfl⟩
      go_wp2_with fail
      refine (HB.out _).mono ?_
      rintro e _ ⟨rfl, x3, rfl⟩
      go_wp2_with fail
      refine (HK3.out _).mono ?_
      rintro e _ ⟨rfl, x4, rfl⟩
      go_wp2_with fail
      refine (HW.out _).mono ?_
      rintro e _ ⟨rfl, x5, rfl⟩
      go_wp2
      go_ret
      exact RetE.fin (hE.trans x5.h) rfl
    obtain ⟨F, hF⟩ : ∃ F, F = fairOf (openV S) (allP (openV S)) := ⟨_, rfl⟩
    have hfv : fairV S = .tuple #[.int .i64 F, .int .i64 0] := by simp [fairV, bP_t HS.out, hz, hF]
    rw [hfv] at HF0
    rw [← hF] at f1 f2 f5 HFG
    have HF := Lib.hid HF0
    have hz' : ((S.boxes.length : Int) == 0) = false := by rw [beq_eq_false_iff_ne]; omega
    have hF0 : decide (F < 0) = false := by simpa using f1
    have hfm : F ≤ m := by
      have : F * 1 ≤ F * S.boxes.length := Int.mul_le_mul_of_nonneg_left (by omega) f1
      omega
    have hFm : decide (m < F) = false := by simpa using hfm
    have hwm : IntKind.i64.wrap (F * S.boxes.length) = F * S.boxes.length := IntWalk.i64_in _ (by
      have : 0 ≤ F * S.boxes.length := Int.mul_nonneg f1 (by omega)
      omega)
    have hFb : decide (m < F * S.boxes.length) = false := by simpa using f5
    have HZ := Lib.hid hz
    clear hfv HF0 f1 f2 f5 hm hF hfm hz f3 f4
    by_cases hfar : FarL L
    · have HFA0 : ∀ x : ExtW W, _ := fun x : ExtW W => ExtW.call (HFAR x)
      rw [bP_t hfar] at HFA0
      have HFA := Lib.hid HFA0
      clear hfar HFA0 HFAR
      go_wp2_with fail
      refine (HR.out _).mono ?_
      rintro e _ ⟨rfl, x1, rfl⟩
      go_wp2_with fail
      refine (HF.out _).mono ?_
      rintro e _ ⟨rfl, x2, rfl⟩
      go_wp2_with fail
      refine (HB.out _).mono ?_
      rintro e _ ⟨rfl, x3, rfl⟩
      go_wp2_with fail
      refine (HK.out _).mono ?_
      rintro e _ ⟨rfl, x4, rfl⟩
      go_wp2_with fail
      refine (HFA.out _).mono ?_
      rintro e _ ⟨rfl, x5, rfl⟩
      go_wp2_with fail
      refine (HW.out _).mono ?_
      rintro e _ ⟨rfl, x6, rfl⟩
      go_wp2
      go_ret
      exact RetE.fin (hE.trans x6.h) rfl
    obtain ⟨hl40, hr40⟩ := not_far hfar
    have HFA0 : ∀ x : ExtW W, _ := fun x : ExtW W => ExtW.call (HFAR x)
    rw [bP_f hfar] at HFA0
    have HFA := Lib.hid HFA0
    have HR40 := Lib.hid hr40
    clear hfar HFA0 HFAR hr40
    have HIP0 : ∀ x : ExtW W, _ := fun x : ExtW W => ExtW.call (IsPlan07 _ S p L c x.w (SwapV.mono _ _ _ _ (hE.trans x.h) HV.out) (modest_of_valid HS.out) (HPW.out.ext x.h) (by omega) (fun i h => by have := HR40.out i h; omega))
    by_cases hpl : IsPlan S L
    case neg =>
      rw [bP_f hpl] at HIP0
      have HIP := Lib.hid HIP0
      clear hpl HIP0
      go_wp2_with fail
      refine (HR.out _).mono ?_
      rintro e _ ⟨rfl, x1, rfl⟩
      go_wp2_with fail
      refine (HF.out _).mono ?_
      rintro e _ ⟨rfl, x2, rfl⟩
      go_wp2_with fail
      refine (HB.out _).mono ?_
      rintro e _ ⟨rfl, x3, rfl⟩
      go_wp2_with fail
      refine (HK.out _).mono ?_
      rintro e _ ⟨rfl, x4, rfl⟩
      go_wp2_with fail
      refine (HFA.out _).mono ?_
      rintro e _ ⟨rfl, x5, rfl⟩
      go_wp2_with fail
      refine (HIP.out _).mono ?_
      rintro e _ ⟨rfl, x5, rfl⟩
      go_wp2_with fail
      refine (HW.out _).mono ?_
      rintro e _ ⟨rfl, x6, rfl⟩
      go_wp2
      go_ret
      exact RetE.fin (hE.trans x6.h) rfl
    rw [bP_t hpl] at HIP0
    have HIP := Lib.hid HIP0
    have HPL := Lib.hid hpl
    have HDF0 : ∀ x : ExtW W, _ := fun x : ExtW W => ExtW.call (DoesFit07 _ S p L c x.w (SwapV.mono _ _ _ _ (hE.trans x.h) HV.out) HS.out (HPW.out.ext x.h) HPL.out.1 (fun i h => by have := HR40.out i h; omega))
    clear hpl HIP0
    by_cases hft : FitP S L
    case neg =>
      rw [bP_f hft] at HDF0
      have HDF := Lib.hid HDF0
      clear hft HDF0
      go_wp2_with fail
      refine (HR.out _).mono ?_
      rintro e _ ⟨rfl, x1, rfl⟩
      go_wp2_with fail
      refine (HF.out _).mono ?_
      rintro e _ ⟨rfl, x2, rfl⟩
      go_wp2_with fail
      refine (HB.out _).mono ?_
      rintro e _ ⟨rfl, x3, rfl⟩
      go_wp2_with fail
      refine (HK.out _).mono ?_
      rintro e _ ⟨rfl, x4, rfl⟩
      go_wp2_with fail
      refine (HFA.out _).mono ?_
      rintro e _ ⟨rfl, x5, rfl⟩
      go_wp2_with fail
      refine (HIP.out _).mono ?_
      rintro e _ ⟨rfl, x5, rfl⟩
      go_wp2_with fail
      refine (HDF.out _).mono ?_
      rintro e _ ⟨rfl, x5, rfl⟩
      go_wp2_with fail
      refine (HW.out _).mono ?_
      rintro e _ ⟨rfl, x6, rfl⟩
      go_wp2
      go_ret
      exact RetE.fin (hE.trans x6.h) rfl
    rw [bP_t hft] at HDF0
    have HDF := Lib.hid HDF0
    have hmem := (plan_mem HS.out HPL.out).2 hft
    have hleast : leastTo (openV S) (planTo L L.length) S.boxes.length ≤ F := HFG.out _ hmem
    obtain ⟨K, hK, hKe⟩ := least_is (openV S) (planTo L L.length) S.boxes.length (by have := HZ.out; omega)
    rw [hKe] at hleast
    have HLE := Lib.hid hleast
    have HCL := Lib.hid (fun (x : World) (hx : Ext W x) => CloneLists07x x p L c hx (by omega) (fun i h => by have := HR40.out i h; omega) (HPW.out.ext hx))
    have HEA := Lib.hid (fun (x : ExtW W) q cap (hq : ListsAt x.w q L) => Earns07x x.w _ S q cap L x.h (SwapV.mono _ _ _ _ (hE.trans x.h) HV.out) HS.out HPL.out hq (by omega) (fun i h => by have := HR40.out i h; omega))
    obtain ⟨lst, hlst⟩ : ∃ l, l = eL S (planTo L L.length) S.boxes.length := ⟨_, rfl⟩
    have hlen : lst.length = S.boxes.length := by rw [hlst, eL_len]
    have HLK := Lib.hid (show ∀ h : K < lst.length, lst[K] ≤ F from by
      intro h
      have he : lst[K] = earnTo S.earn (planTo L L.length K) K S.earn.length := by
        simp only [hlst, eL, List.getElem_map, List.getElem_range]
      rw [he]; exact HLE.out)
    rw [← hlst] at HEA
    have HLEN := Lib.hid hlen
    clear hft HDF0 hmem hleast hKe HLE HFG hlst hlen
    go_wp2_with fail
    refine (HR.out _).mono ?_
    rintro e _ ⟨rfl, x1, rfl⟩
    go_wp2_with fail
    refine (HF.out _).mono ?_
    rintro e _ ⟨rfl, x2, rfl⟩
    go_wp2_with fail
    refine (HB.out _).mono ?_
    rintro e _ ⟨rfl, x3, rfl⟩
    go_wp2_with fail
    refine (HK.out _).mono ?_
    rintro e _ ⟨rfl, x4, rfl⟩
    go_wp2_with fail
    refine (HFA.out _).mono ?_
    rintro e _ ⟨rfl, x5, rfl⟩
    go_wp2_with fail
    refine (HIP.out _).mono ?_
    rintro e _ ⟨rfl, x6, rfl⟩
    go_wp2_with fail
    refine (HDF.out _).mono ?_
    rintro e _ ⟨rfl, x7, rfl⟩
    go_upto_region 9 with (fail)
    go_region_with (first
      | (go_at_call 30; refine (HCL.out _ (by repeat (first | exact x7.h | refine Ext.drew ?_))).mono ?_; rintro e _ ⟨q5, cap5, rfl, x8, rfl, hq5⟩; have HQ5 := Lib.hid hq5; clear hq5)
      | (go_at_call 35; refine (HEA.out x8 q5 cap5 HQ5.out).mono ?_; rintro e _ ⟨p6, cap6, rfl, x9, rfl, hi9⟩; have HI9 := Lib.hid hi9; clear hi9))
    all_goals
      have hKl : K < lst.length := by have := HLEN.out; omega
      have hKb : K < S.boxes.length := hK
      go_wp2
      go_loopw [12] (fun i wr => ∃ k : Nat, k ≤ K ∧ i = .int .i64 k ∧ ∃ x : ExtW W, wr = x.w ∧ Ext x9.w x.w) (fun i _ => S.boxes.length - (intOf i).toNat)
      case atStart => exact ⟨0, by omega, rfl, x9, rfl, Ext.refl _⟩
      case round =>
        obtain ⟨k, hk, rfl, x, rfl, hx9⟩ := hrel
        obtain ⟨b6, o6, rfl, hc6⟩ := (HI9.out.ext hx9).at k (by omega)
        have HX9 := Lib.hid hx9
        clear hx9
        by_cases hle : lst[k] ≤ F
        · have hle' : decide (lst[k] ≤ F) = true := by simpa using hle
          clear hle
          go_wp2_with fail
          refine (HW.out _).mono ?_
          rintro e _ ⟨rfl, x10, rfl⟩
          go_wp2
          go_ret
          exact RetE.fin (hE.trans x10.h) rfl
        · have hle' : decide (lst[k] ≤ F) = false := by simpa using hle
          have hkK : k ≠ K := by
            rintro rfl
            exact hle (HLK.out hKl)
          clear hle
          go_wp2
          go_roundw
          case rel => exact ⟨k + 1, by omega, by go_num, x, rfl, HX9.out⟩
          case measure => simp [intOf]; omega
  · rw [bP_f hR] at HR
    clear hR HFAR
    go_wp2_with fail
    refine (HR.out _).mono ?_
    rintro e _ ⟨rfl, x1, rfl⟩
    go_wp2_with fail
    refine (HW.out _).mono ?_
    rintro e _ ⟨rfl, x2, rfl⟩
    go_wp2
    go_ret
    exact RetE.fin (hE.trans x2.h) rfl
end Go.Proofs.Ytpgjkmjejpfkmaa
