/- The walk of SwapsFits. -/
import Derived.Test.YtpgjkmjejpfkmaaWFair
import Derived.Test.YtpgjkmjejpfkmaaS07b
import Derived.Test.YtpgjkmjejpfkmaaC07f
namespace Go.Proofs.Ytpgjkmjejpfkmaa
open Go.RowKit

theorem rL_eL {S : Swap} (hS : Valid S) {L : List (List Int)} (hL : IsPlan S L) : rL S L S.boxes.length = eL S (planTo L L.length) S.boxes.length := by
  unfold rL eL
  refine List.map_congr_left fun k hk => ?_
  have hk' : k < L.length := by have := List.mem_range.1 hk; have := hL.1; omega
  rw [plan_earn hS hL k hk', getD_of_lt _ _ _ hk']

/-- both Earns: the same -/
theorem Earns07z {W : World} (x : World) (v : Value) (S : Swap) (pp : Option Addr) (pc : Nat) (L : List (List Int)) (hx : Ext W x) (hv : SwapV x v S) (hM : Modest S) (hL : ListsAt x pp L) (hLl : L.length ≤ 100000) (hLr : ∀ i (h : i < L.length), L[i].length ≤ 100000)
    {l : List Int} {n m : Int} (h1 : Valid S → IsPlan S L → l = eL S (planTo L L.length) S.boxes.length ∧ n = earnsAll S L ∧ m = 0) (h2 : Valid S → ¬IsPlan S L → l = [] ∧ n = 0 ∧ m = 1) (h3 : ¬Valid S → l = [] ∧ n = 0 ∧ m = 70) :
    Calls Try.prog 35 #[v, .slice pp L.length pc] x (fun e w' => ∃ p c, e = .returned (.tuple #[.slice p l.length c, .int .i64 n, .int .i64 m]) ∧ ∃ y : ExtW W, w' = y.w ∧ IntsAt y.w p l ∧ Ext x y.w) := by
  refine (Earns07 v S pp pc L x hv hM hL hLl hLr).mono ?_
  rintro e w' (⟨hS, hP, u, rfl, ⟨p, c, rfl, hi⟩, hE⟩ | ⟨hS, hP, rfl, hE⟩ | ⟨hS, rfl, hE⟩)
  · obtain ⟨rfl, rfl, rfl⟩ := h1 hS hP
    refine ⟨p, c, ?_, ⟨w', hx.trans hE⟩, rfl, hi, hE⟩
    rw [← hP.1, plan_sum hS hP _ (Nat.le_refl _)]
    rfl
  · obtain ⟨rfl, rfl, rfl⟩ := h2 hS hP
    exact ⟨none, 0, rfl, ⟨w', hx.trans hE⟩, rfl, IntsAt.nil _ _, hE⟩
  · obtain ⟨rfl, rfl, rfl⟩ := h3 hS
    exact ⟨none, 0, rfl, ⟨w', hx.trans hE⟩, rfl, IntsAt.nil _ _, hE⟩
theorem rEarns07z {W : World} (x : World) (v : Value) (S : Swap) (pp : Option Addr) (pc : Nat) (L : List (List Int)) (hx : Ext W x) (hv : SwapV x v S) (hM : Modest S) (hL : ListsAt x pp L) (hLl : L.length ≤ 100000) (hLr : ∀ i (h : i < L.length), L[i].length ≤ 100000)
    {l : List Int} {n m : Int} (h1 : Valid S → IsPlan S L → l = eL S (planTo L L.length) S.boxes.length ∧ n = earnsAll S L ∧ m = 0) (h2 : Valid S → ¬IsPlan S L → l = [] ∧ n = 0 ∧ m = 1) (h3 : ¬Valid S → l = [] ∧ n = 0 ∧ m = 70) :
    Calls Try.prog 36 #[v, .slice pp L.length pc] x (fun e w' => ∃ p c, e = .returned (.tuple #[.slice p l.length c, .int .i64 n, .int .i64 m]) ∧ ∃ y : ExtW W, w' = y.w ∧ IntsAt y.w p l ∧ Ext x y.w) := by
  refine (rEarns07 v S pp L pc x hv hM hL hLl hLr).mono ?_
  rintro e w' (⟨hS, hP, u, rfl, ⟨p, c, rfl, hi⟩, hE⟩ | ⟨hS, hP, rfl, hE⟩ | ⟨hS, rfl, hE⟩)
  · obtain ⟨rfl, rfl, rfl⟩ := h1 hS hP
    rw [← rL_eL hS hP]
    exact ⟨p, c, rfl, ⟨w', hx.trans hE⟩, rfl, hi, hE⟩
  · obtain ⟨rfl, rfl, rfl⟩ := h2 hS hP
    exact ⟨none, 0, rfl, ⟨w', hx.trans hE⟩, rfl, IntsAt.nil _ _, hE⟩
  · obtain ⟨rfl, rfl, rfl⟩ := h3 hS
    exact ⟨none, 0, rfl, ⟨w', hx.trans hE⟩, rfl, IntsAt.nil _ _, hE⟩
theorem fits_vals (S : Swap) (L : List (List Int)) : ∃ (b : Bool) (n : Int), fitsV S L = .tuple #[.bool b, .int .i64 n] := by
  unfold fitsV
  split
  · split
    · exact ⟨_, _, rfl⟩
    · exact ⟨_, _, rfl⟩
  · exact ⟨_, _, rfl⟩
theorem earns_vals (S : Swap) (L : List (List Int)) : ∃ (l : List Int) (n m : Int), (Valid S → IsPlan S L → l = eL S (planTo L L.length) S.boxes.length ∧ n = earnsAll S L ∧ m = 0) ∧ (Valid S → ¬IsPlan S L → l = [] ∧ n = 0 ∧ m = 1) ∧ (¬Valid S → l = [] ∧ n = 0 ∧ m = 70) := by
  by_cases hS : Valid S
  · by_cases hP : IsPlan S L
    · exact ⟨_, _, _, fun _ _ => ⟨rfl, rfl, rfl⟩, fun _ h => absurd hP h, fun h => absurd hS h⟩
    · exact ⟨_, _, _, fun _ h => absurd h hP, fun _ _ => ⟨rfl, rfl, rfl⟩, fun h => absurd hS h⟩
  · exact ⟨_, _, _, fun h => absurd h hS, fun h => absurd h hS, fun _ => ⟨rfl, rfl, rfl⟩⟩
set_option maxRecDepth 100000 in
set_option maxHeartbeats 8000000 in
theorem SwapsFits07 (v : Value) (S : Swap) (p : Option Addr) (L : List (List Int)) (c : Nat) (w : World) (hv : SwapV w v S) (hM : Big S) (hp : ListsAt w p L) (hl : L.length ≤ 9223372036854775807) (hr : ∀ l ∈ L, l.length ≤ 9223372036854775807) :
    Calls Try.prog 7 #[v, .slice p L.length c] w (RetE (.bool true) w) := by
  have HV := Lib.hid hv
  have HR9 := Lib.hid hr
  obtain ⟨p0, c0, p1, c1, p2, c2, p3, c3, rfl, h0, h1, h2, h3⟩ := hv
  have m0 := hM.boxes
  have m1 := hM.stock
  have m2 := hM.earn
  have m3 := hM.keeps
  go_enter Try.func7, Try.ntmps7
  go_upto_region 1 with (fail)
  have hn := heap_new w (.cells #[.slice p0 S.boxes.length c0, .slice p1 S.stock.length c1, .slice p2 S.earn.length c2, .slice p3 S.keeps.length c3, .int .i64 S.changes] 26)
  obtain ⟨W, hW⟩ : ∃ W, W = w.alloc (.cells #[.slice p0 S.boxes.length c0, .slice p1 S.stock.length c1, .slice p2 S.earn.length c2, .slice p3 S.keeps.length c3, .int .i64 S.changes] 26) := ⟨_, rfl⟩
  have hE : Ext w W := by rw [hW]; exact Ext.alloc (Ext.refl w) _
  rw [← hW] at hn ⊢
  have q0 := ExtW.cell (v := .slice p0 S.boxes.length c0) (cell_of_heap hn 0)
  have q1 := ExtW.cell (v := .slice p1 S.stock.length c1) (cell_of_heap hn 1)
  have q2 := ExtW.cell (v := .slice p2 S.earn.length c2) (cell_of_heap hn 2)
  have q3 := ExtW.cell (v := .slice p3 S.keeps.length c3) (cell_of_heap hn 3)
  have q4 := ExtW.cell (v := .int .i64 S.changes) (cell_of_heap hn 4)
  have HW := Lib.hid (fun x : ExtW W => ExtW.call (works07 x.w))
  have HA0 : ∀ x : ExtW W, _ := fun x : ExtW W => ExtW.call (RetQ.e (farLists07 p0 S.boxes c0 x.w m0 hM.box (h0.ext (hE.trans x.h))))
  have HB0 : ∀ x : ExtW W, _ := fun x : ExtW W => ExtW.call (RetQ.e (farLists07 p2 S.earn c2 x.w m2 hM.row (h2.ext (hE.trans x.h))))
  have HP0 : ∀ x : ExtW W, _ := fun x : ExtW W => ExtW.call (RetQ.e (farLists07 p L c x.w hl HR9.out (hp.ext (hE.trans x.h))))
  have HPW := Lib.hid (hp.ext hE)
  obtain ⟨x0, hx0⟩ := ExtW.of (Ext.refl W)
  clear hW hn hp h0 h1 h2 h3 hr
  conv => arg 5; rw [hx0]
  clear hx0
  by_cases fA : FarL S.boxes
  · rw [bP_t fA] at HA0
    have HA := Lib.hid HA0
    clear HA0 HB0 HP0 fA
    go_wp2_with fail
    refine (HA.out _).mono ?_
    rintro e _ ⟨rfl, x1, rfl⟩
    go_wp2_with fail
    refine (HW.out _).mono ?_
    rintro e _ ⟨rfl, x2, rfl⟩
    go_wp2
    go_ret
    exact RetE.fin (hE.trans x2.h) rfl
  rw [bP_f fA] at HA0
  have HA := Lib.hid HA0
  have FA := Lib.hid fA
  clear HA0 fA
  by_cases fB : FarL S.earn
  · rw [bP_t fB] at HB0
    have HB := Lib.hid HB0
    clear HB0 HP0 fB
    go_wp2_with fail
    refine (HA.out _).mono ?_
    rintro e _ ⟨rfl, x1, rfl⟩
    go_wp2_with fail
    refine (HB.out _).mono ?_
    rintro e _ ⟨rfl, x2, rfl⟩
    go_wp2_with fail
    refine (HW.out _).mono ?_
    rintro e _ ⟨rfl, x3, rfl⟩
    go_wp2
    go_ret
    exact RetE.fin (hE.trans x3.h) rfl
  rw [bP_f fB] at HB0
  have HB := Lib.hid HB0
  have FB := Lib.hid fB
  clear HB0 fB
  by_cases fC : 40 < S.stock.length
  · clear HP0
    go_wp2_with fail
    refine (HA.out _).mono ?_
    rintro e _ ⟨rfl, x1, rfl⟩
    go_wp2_with fail
    refine (HB.out _).mono ?_
    rintro e _ ⟨rfl, x2, rfl⟩
    go_wp2_with fail
    refine (HW.out _).mono ?_
    rintro e _ ⟨rfl, x3, rfl⟩
    go_wp2
    go_ret
    exact RetE.fin (hE.trans x3.h) rfl
  by_cases fD : 40 < S.keeps.length
  · clear HP0
    go_wp2_with fail
    refine (HA.out _).mono ?_
    rintro e _ ⟨rfl, x1, rfl⟩
    go_wp2_with fail
    refine (HB.out _).mono ?_
    rintro e _ ⟨rfl, x2, rfl⟩
    go_wp2_with fail
    refine (HW.out _).mono ?_
    rintro e _ ⟨rfl, x3, rfl⟩
    go_wp2
    go_ret
    exact RetE.fin (hE.trans x3.h) rfl
  by_cases fP : FarL L
  · rw [bP_t fP] at HP0
    have HP := Lib.hid HP0
    clear HP0 fP
    go_wp2_with fail
    refine (HA.out _).mono ?_
    rintro e _ ⟨rfl, x1, rfl⟩
    go_wp2_with fail
    refine (HB.out _).mono ?_
    rintro e _ ⟨rfl, x2, rfl⟩
    go_wp2_with fail
    refine (HP.out _).mono ?_
    rintro e _ ⟨rfl, x3, rfl⟩
    go_wp2_with fail
    refine (HW.out _).mono ?_
    rintro e _ ⟨rfl, x4, rfl⟩
    go_wp2
    go_ret
    exact RetE.fin (hE.trans x4.h) rfl
  rw [bP_f fP] at HP0
  have HP := Lib.hid HP0
  obtain ⟨pl40, pr40⟩ := not_far fP
  obtain ⟨bl40, br40⟩ := not_far FA.out
  obtain ⟨el40, er40⟩ := not_far FB.out
  have PR := Lib.hid pr40
  have BR := Lib.hid br40
  have ER := Lib.hid er40
  have hMo : Modest S := ⟨by omega, fun i h => by have := BR.out i h; omega, by omega, by omega, fun i h => by have := ER.out i h; omega, by omega⟩
  have HMO := Lib.hid hMo
  have sl40 : S.stock.length ≤ 40 := by omega
  have kl40 : S.keeps.length ≤ 40 := by omega
  have HCN := Lib.hid (fun (x : ExtW W) => Clone07 _ S x.w (SwapV.mono _ _ _ _ (hE.trans x.h) HV.out) (by omega) (fun i h => by have := BR.out i h; omega) (by omega) (by omega) (fun i h => by have := ER.out i h; omega) (by omega))
  have HCL := Lib.hid (fun (x : World) (hx : Ext W x) => CloneLists07x (W := x) x p L c (Ext.refl x) (by omega) (fun i h => by have := PR.out i h; omega) (HPW.out.ext hx))
  clear HP0 fP pr40 br40 er40 hMo fC fD
  go_wp2_with fail
  refine (HA.out _).mono ?_
  rintro e _ ⟨rfl, x1, rfl⟩
  go_wp2_with fail
  refine (HB.out _).mono ?_
  rintro e _ ⟨rfl, x2, rfl⟩
  go_wp2_with fail
  refine (HP.out _).mono ?_
  rintro e _ ⟨rfl, x3, rfl⟩
  go_wp2_with fail
  refine (HCN.out x3).mono ?_
  rintro e w4 ⟨v0, v1, v2, v3, g0, k0, g2, k2, B, rfl, hE4, -, hco⟩
  obtain ⟨r0, d0, r1, d1, r2, d2, r3, d3, he, i0, i1, i2, i3⟩ := hco.swap
  have HO0 := Lib.hid hco.swap
  injection he with he
  injection he with he
  simp only [List.cons.injEq, and_true] at he
  obtain ⟨rfl, rfl, rfl, rfl⟩ := he
  obtain ⟨x4, rfl⟩ := ExtW.of (x3.h.trans hE4)
  clear hco i0 i1 i2 i3 hE4
  go_wp2_with fail
  refine (HCL.out _ x4.h).mono ?_
  rintro e _ ⟨q5, cap5, rfl, y5, rfl, hq5⟩
  have HO5 := Lib.hid (SwapV.mono _ _ _ _ y5.h HO0.out)
  have HQ5 := Lib.hid hq5
  obtain ⟨x5, hx5⟩ := ExtW.of (x4.h.trans y5.h)
  rw [hx5] at HO5 HQ5 ⊢
  clear hx5 hq5 HO0 HCL HCN HA HB HP
  go_upto_region 4 with (fail)
  have hn := heap_new x5.w (.cells #[.slice r0 S.boxes.length d0, .slice r1 S.stock.length d1, .slice r2 S.earn.length d2, .slice r3 S.keeps.length d3, .int .i64 S.changes] 26)
  obtain ⟨W6, hW6⟩ : ∃ W6, W6 = x5.w.alloc (.cells #[.slice r0 S.boxes.length d0, .slice r1 S.stock.length d1, .slice r2 S.earn.length d2, .slice r3 S.keeps.length d3, .int .i64 S.changes] 26) := ⟨_, rfl⟩
  have hE6 : Ext x5.w W6 := by rw [hW6]; exact Ext.alloc (Ext.refl x5.w) _
  rw [← hW6] at hn ⊢
  have o0 := ExtW.cell (v := .slice r0 S.boxes.length d0) (cell_of_heap hn 0)
  have o1 := ExtW.cell (v := .slice r1 S.stock.length d1) (cell_of_heap hn 1)
  have o2 := ExtW.cell (v := .slice r2 S.earn.length d2) (cell_of_heap hn 2)
  have o3 := ExtW.cell (v := .slice r3 S.keeps.length d3) (cell_of_heap hn 3)
  have o4 := ExtW.cell (v := .int .i64 S.changes) (cell_of_heap hn 4)
  have hWW : Ext W W6 := x5.h.trans hE6
  have s0 : ∀ x : ExtW W6, x.w.cell? ⟨w.heap.size, 0, none⟩ = some (.slice p0 S.boxes.length c0) := fun x => q0 ⟨x.w, hWW.trans x.h⟩
  have s1 : ∀ x : ExtW W6, x.w.cell? ⟨w.heap.size, 1, none⟩ = some (.slice p1 S.stock.length c1) := fun x => q1 ⟨x.w, hWW.trans x.h⟩
  have s2 : ∀ x : ExtW W6, x.w.cell? ⟨w.heap.size, 2, none⟩ = some (.slice p2 S.earn.length c2) := fun x => q2 ⟨x.w, hWW.trans x.h⟩
  have s3 : ∀ x : ExtW W6, x.w.cell? ⟨w.heap.size, 3, none⟩ = some (.slice p3 S.keeps.length c3) := fun x => q3 ⟨x.w, hWW.trans x.h⟩
  have s4 : ∀ x : ExtW W6, x.w.cell? ⟨w.heap.size, 4, none⟩ = some (.int .i64 S.changes) := fun x => q4 ⟨x.w, hWW.trans x.h⟩
  have HW6 := Lib.hid (fun x : ExtW W6 => ExtW.call (works07 x.w))
  have HSW := Lib.hid (fun x : ExtW W6 => SwapV.mono _ _ _ _ (hE.trans (hWW.trans x.h)) HV.out)
  have HOW := Lib.hid (fun x : ExtW W6 => SwapV.mono _ _ _ _ (hE6.trans x.h) HO5.out)
  have HPL := Lib.hid (fun x : ExtW W6 => HPW.out.ext (hWW.trans x.h))
  have HQL := Lib.hid (fun x : ExtW W6 => HQ5.out.ext (hE6.trans x.h))
  have HEND := Lib.hid (hE.trans hWW)
  have hLr : ∀ i (h : i < L.length), L[i].length ≤ 100000 := fun i h => by have := PR.out i h; omega
  obtain ⟨fb, fn, hfv⟩ := fits_vals S L
  obtain ⟨el, en, em, t1, t2, t3⟩ := earns_vals S L
  have HF10 : ∀ x : ExtW W6, _ := fun x : ExtW W6 => ExtW.call (Fits07 _ S q5 cap5 L x.w (HOW.out x) HMO.out (HQL.out x) (by omega) hLr)
  have HF20 : ∀ x : ExtW W6, _ := fun x : ExtW W6 => ExtW.call (rFits07 _ S p L c x.w (HSW.out x) HMO.out (HPL.out x) (by omega) hLr)
  rw [hfv] at HF10 HF20
  have HF1 := Lib.hid HF10
  have HF2 := Lib.hid HF20
  have HE1 := Lib.hid (fun x : ExtW W6 => Earns07z (W := W6) x.w _ S q5 cap5 L x.h (HOW.out x) HMO.out (HQL.out x) (by omega) hLr t1 t2 t3)
  have HE2 := Lib.hid (fun x : ExtW W6 => rEarns07z (W := W6) x.w _ S p c L x.h (HSW.out x) HMO.out (HPL.out x) (by omega) hLr t1 t2 t3)
  have hel : el.length ≤ 100000 := by
    by_cases hS : Valid S
    · by_cases hP : IsPlan S L
      · rw [(t1 hS hP).1, eL_len]; omega
      · rw [(t2 hS hP).1]; simp
    · rw [(t3 hS).1]; simp
  have HSI := Lib.hid (fun (x : ExtW W6) a b c d (ha : IntsAt x.w a el) (hb : IntsAt x.w b el) => ExtW.call (RetQ.e (RetQ.bt rfl (SameInts01 a b el el c d x.w hel (by omega) ha hb))))
  have HSM := Lib.hid (fun (x : ExtW W6) => ExtW.call (same07 _ _ S x.w (HOW.out x) (HSW.out x) HMO.out))
  have HSL := Lib.hid (fun (x : ExtW W6) => ExtW.call (SameLists07 q5 p L cap5 c x.w (by omega) hLr (HQL.out x) (HPL.out x)))
  have HK10 := fun x : ExtW W6 => ExtW.call (Check07 _ S x.w (HOW.out x) HMO.out)
  have HK20 := fun x : ExtW W6 => ExtW.call (rCheck07 _ S x.w (HSW.out x) HMO.out)
  obtain ⟨ck, hck⟩ : ∃ ck, ck = chk S := ⟨_, rfl⟩
  rw [← hck] at HK10 HK20
  have HK1 := Lib.hid HK10
  have HK2 := Lib.hid HK20
  obtain ⟨z0, hz0⟩ := ExtW.of (Ext.refl W6)
  conv => arg 5; rw [hz0]
  clear HK10 HK20 HF10 HF20 hck hfv t1 t2 t3 hel hLr hW6 hn q0 q1 q2 q3 q4 hz0 HW hE6 hWW hE HV HO5 HQ5 HPW
  refine wp_region_extW (by kernel_rfl) (by kernel_rfl) ?_
  repeat (go_big_quiet_step (first | (go_at_call 31; exact HK1.out _) | (go_at_call 32; exact HK2.out _)))
  refine wpQuiet_nil ?_
  rintro _ ⟨z1, rfl⟩
  go_wp2_with fail
  refine (HF1.out _).mono ?_
  rintro e _ ⟨rfl, z2, rfl⟩
  go_wp2_with fail
  refine (HF2.out _).mono ?_
  rintro e _ ⟨rfl, z3, rfl⟩
  go_wp2_with fail
  refine (HE1.out z3).mono ?_
  rintro e _ ⟨a4, b4, rfl, z4, rfl, hi4, -⟩
  have HI4 := Lib.hid hi4
  clear hi4
  go_wp2_with fail
  refine (HE2.out z4).mono ?_
  rintro e _ ⟨a5, b5, rfl, z5, rfl, hi5, hE5⟩
  have HI5 := Lib.hid hi5
  replace HI4 := Lib.hid (HI4.out.ext hE5)
  clear hi5 hE5
  go_wp2_with fail
  refine (HSI.out z5 _ _ _ _ HI4.out HI5.out).mono ?_
  rintro e _ ⟨rfl, z6, rfl⟩
  go_wp2_with fail
  refine (HSM.out _).mono ?_
  rintro e _ ⟨rfl, z7, rfl⟩
  go_wp2_with fail
  refine (HSL.out _).mono ?_
  rintro e _ ⟨rfl, z8, rfl⟩
  go_wp2_with fail
  refine (HW6.out _).mono ?_
  rintro e _ ⟨rfl, z9, rfl⟩
  go_wp2
  go_ret
  exact RetE.fin (HEND.out.trans z9.h) rfl
end Go.Proofs.Ytpgjkmjejpfkmaa
