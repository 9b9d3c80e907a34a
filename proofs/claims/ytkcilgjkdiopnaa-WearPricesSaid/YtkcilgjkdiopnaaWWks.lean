/- The walk of WearWeeks. -/
import Derived.Test.YtkcilgjkdiopnaaE03g
import Derived.Test.YtkcilgjkdiopnaaWAges
namespace Go.Proofs.Ytkcilgjkdiopnaa
open Go.RowKit

theorem Last03i (v : Value) (X : Wr) (budget : Int) (w : World) (hv : WrV w v X) (hX : ValidW X) (h0 : 0 ≤ budget) (h1 : budget ≤ 99999) :
    Calls Try.prog 30 #[v, .int .i64 budget] w (RetE (.tuple #[.int .i64 (lastTo X budget X.weeks.toNat), .int .i64 0]) w) := by
  have := Last03 v X budget w hv hX (modest_valid hX)
  unfold lastV at this
  rwa [if_pos ⟨h0, h1⟩] at this
theorem isKnown03 (e : Int) (h : e = 0 ∨ e = 3) (w : World) : Calls Try.prog 37 #[.int .i64 e] w (RetE (.bool true) w) := by
  go_enter Try.func37, Try.ntmps37
  rcases h with rfl | rfl
  · go_wp2
    go_ret
    exact RetE.fin (by first | exact Ext.refl _ | exact (Ext.refl _).drew) rfl
  · go_wp2
    go_ret
    exact RetE.fin (by first | exact Ext.refl _ | exact (Ext.refl _).drew) rfl

/-- the answers of Cheapest for all weeks and for the first ones -/
theorem weeks_law {X : Wr} (hX : ValidW X) {k : Nat} (hk : (k : Int) ≤ X.weeks) {b b' : Int} (hb : 0 ≤ b) (h : b ≤ b') :
    ∃ m e n f : Int, ∃ A B : Nat, cheapV X = .tuple #[.int .i64 m, .int .i64 e] ∧ cheapV (firstX X k) = .tuple #[.int .i64 n, .int .i64 f] ∧ lastTo X b X.weeks.toNat = A ∧ lastTo X b' X.weeks.toNat = B ∧
      (e = 0 ∨ e = 3) ∧ (f = 0 ∨ f = 3) ∧ (e = 0 → f = 0 ∧ n ≤ m) ∧ (B : Int) ≤ X.weeks ∧ A ≤ B ∧ ((A : Int) = X.weeks ↔ e = 0 ∧ m ≤ b) ∧ (k ≤ A → f = 0 ∧ n ≤ b) := by
  have hw := hX.weeks
  have hW : (X.weeks.toNat : Int) = X.weeks := by omega
  have hB := lastTo_le X b' X.weeks.toNat
  have hAB := lastTo_mono X hb h X.weeks.toNat
  have heq := lastTo_eq X hb X.weeks.toNat
  have hlow := fun hk' : k ≤ lastTo X b X.weeks.toNat => lastTo_low hX hb hk'
  rw [cheap_costOf, first_cheap]
  have hcl := fun n h => costOf_low (n := n) hX (show k ≤ X.weeks.toNat by omega) h
  cases hm : costOf X X.weeks.toNat with
  | none =>
    cases hn : costOf X k with
    | none => 
      refine ⟨0, 3, 0, 3, _, _, rfl, rfl, rfl, rfl, Or.inr rfl, Or.inr rfl, fun h => absurd h (by decide), by omega, hAB, ?_, fun hk' => ?_⟩
      · constructor
        · intro e; obtain ⟨m, h1, -⟩ := heq.1 (by omega); rw [hm] at h1; cases h1
        · intro e; exact absurd e.1 (by decide)
      · obtain ⟨m, h1, -⟩ := hlow hk'; rw [hn] at h1; cases h1
    | some n =>
      refine ⟨0, 3, n, 0, _, _, rfl, rfl, rfl, rfl, Or.inr rfl, Or.inl rfl, fun h => absurd h (by decide), by omega, hAB, ?_, fun hk' => ?_⟩
      · constructor
        · intro e; obtain ⟨m, h1, -⟩ := heq.1 (by omega); rw [hm] at h1; cases h1
        · intro e; exact absurd e.1 (by decide)
      · obtain ⟨m, h1, h2⟩ := hlow hk'; rw [hn] at h1; cases h1; exact ⟨rfl, h2⟩
  | some m =>
    obtain ⟨n, hn, hnm⟩ := hcl m hm
    rw [hn]
    refine ⟨m, 0, n, 0, _, _, rfl, rfl, rfl, rfl, Or.inl rfl, Or.inl rfl, fun _ => ⟨rfl, hnm⟩, by omega, hAB, ?_, fun hk' => ?_⟩
    · constructor
      · intro e; obtain ⟨m', h1, h2⟩ := heq.1 (by omega); rw [hm] at h1; cases h1; exact ⟨rfl, h2⟩
      · intro e; have := heq.2 ⟨m, hm, e.2⟩; omega
    · obtain ⟨m', h1, h2⟩ := hlow hk'; rw [hn] at h1; cases h1; exact ⟨rfl, h2⟩

set_option maxRecDepth 20000 in
set_option maxHeartbeats 8000000 in
theorem WearWeeks03 (v : Value) (X : Wr) (k a b : Int) (w : World) (hv : WrV w v X) (hM : BigW X) :
    Calls Try.prog 7 #[v, .int .i64 k, .agg #[.int .i64 a, .int .i64 b]] w (RetE (.bool true) w) := by
  have HV := Lib.hid hv
  have HB := Lib.hid hM
  obtain ⟨p, c, q, d, rfl, h1, h2⟩ := hv
  clear hM h1 h2
  go_enter Try.func7, Try.ntmps7
  go_upto_region 1 with (fail)
  have hg0 := heap_new1 w (.cells (wrCells X p c q d) 25) (.cells #[.int .i64 a, .int .i64 b] 57)
  have hg1 := heap_new2 w (.cells (wrCells X p c q d) 25) (.cells #[.int .i64 a, .int .i64 b] 57)
  unfold wrCells at hg0 hg1
  obtain ⟨W, hW⟩ : ∃ W, W = (w.alloc (.cells #[.int .i64 X.weeks, .int .i64 X.price, .int .i64 X.age, .int .i64 X.step, .slice p X.rough.length c, .slice q X.recs.length d] 25)).alloc (.cells #[.int .i64 a, .int .i64 b] 57) := ⟨_, rfl⟩
  have hE : Ext w W := by rw [hW]; exact Ext.alloc (Ext.alloc (Ext.refl w) _) _
  rw [← hW] at hg0 hg1 ⊢
  have q0 := ExtW.cell (v := .int .i64 X.weeks) (cell_of_heap hg0 0)
  have q1 := ExtW.cell (v := .int .i64 X.price) (cell_of_heap hg0 1)
  have q2 := ExtW.cell (v := .int .i64 X.age) (cell_of_heap hg0 2)
  have q3 := ExtW.cell (v := .int .i64 X.step) (cell_of_heap hg0 3)
  have q4 := ExtW.cell (v := .slice p X.rough.length c) (cell_of_heap hg0 4)
  have q5 := ExtW.cell (v := .slice q X.recs.length d) (cell_of_heap hg0 5)
  have m0 := ExtW.cell (v := .int .i64 a) (cell_of_heap hg1 0)
  have m1 := ExtW.cell (v := .int .i64 b) (cell_of_heap hg1 1)
  have HWK := Lib.hid (fun x : ExtW W => ExtW.call (works03 x.w))
  have HR := fun x : ExtW W => ready03 _ X x.w (WrV.mono _ _ _ _ (hE.trans x.h) HV.out) HB.out
  obtain ⟨x0, hx0⟩ := ExtW.of (Ext.refl W)
  clear hW hg0 hg1
  conv => arg 5; rw [hx0]
  clear hx0
  by_cases hR : ReadyW X
  case neg =>
    have HR2 := Lib.hid (fun x : ExtW W => ExtW.call (RetE.bf hR (HR x)))
    clear HR hR
    go_wp2_with (first | (go_at_call 32; refine (HR2.out _).mono ?_; rintro e w' ⟨rfl, x1, rfl⟩) | (go_at_call 16; refine (HWK.out _).mono ?_; rintro e w' ⟨rfl, x2, rfl⟩))
    go_ret
    exact RetE.fin (hE.trans x2.h) rfl
  have HR2 := Lib.hid (fun x : ExtW W => ExtW.call (RetE.bt hR (HR x)))
  have HRD := Lib.hid hR
  clear HR hR
  by_cases g1 : k < 0
  · go_wp2_with (first | (go_at_call 32; refine (HR2.out _).mono ?_; rintro e w' ⟨rfl, x1, rfl⟩) | (go_at_call 16; refine (HWK.out _).mono ?_; rintro e w' ⟨rfl, x2, rfl⟩))
    go_ret
    exact RetE.fin (hE.trans x2.h) rfl
  by_cases g2 : X.weeks < k
  · go_wp2_with (first | (go_at_call 32; refine (HR2.out _).mono ?_; rintro e w' ⟨rfl, x1, rfl⟩) | (go_at_call 16; refine (HWK.out _).mono ?_; rintro e w' ⟨rfl, x2, rfl⟩))
    go_ret
    exact RetE.fin (hE.trans x2.h) rfl
  by_cases g3 : a < 0
  · go_wp2_with (first | (go_at_call 32; refine (HR2.out _).mono ?_; rintro e w' ⟨rfl, x1, rfl⟩) | (go_at_call 16; refine (HWK.out _).mono ?_; rintro e w' ⟨rfl, x2, rfl⟩))
    go_ret
    exact RetE.fin (hE.trans x2.h) rfl
  by_cases g4 : b < 0
  · go_wp2_with (first | (go_at_call 32; refine (HR2.out _).mono ?_; rintro e w' ⟨rfl, x1, rfl⟩) | (go_at_call 16; refine (HWK.out _).mono ?_; rintro e w' ⟨rfl, x2, rfl⟩))
    go_ret
    exact RetE.fin (hE.trans x2.h) rfl
  by_cases g5 : 99999 < a
  · go_wp2_with (first | (go_at_call 32; refine (HR2.out _).mono ?_; rintro e w' ⟨rfl, x1, rfl⟩) | (go_at_call 16; refine (HWK.out _).mono ?_; rintro e w' ⟨rfl, x2, rfl⟩))
    go_ret
    exact RetE.fin (hE.trans x2.h) rfl
  by_cases g6 : 99999 < b
  · go_wp2_with (first | (go_at_call 32; refine (HR2.out _).mono ?_; rintro e w' ⟨rfl, x1, rfl⟩) | (go_at_call 16; refine (HWK.out _).mono ?_; rintro e w' ⟨rfl, x2, rfl⟩))
    go_ret
    exact RetE.fin (hE.trans x2.h) rfl
  have hwr : IntKind.i64.wrap (a + b) = a + b := IntWalk.i64_in _ (by omega)
  by_cases g7 : 99999 < a + b
  · go_wp2_with (first | (go_at_call 32; refine (HR2.out _).mono ?_; rintro e w' ⟨rfl, x1, rfl⟩) | (go_at_call 16; refine (HWK.out _).mono ?_; rintro e w' ⟨rfl, x2, rfl⟩))
    go_ret
    exact RetE.fin (hE.trans x2.h) rfl
  go_upto_region 3 with (first | (go_at_call 32; refine (HR2.out _).mono ?_; rintro e w' ⟨rfl, x1, rfl⟩))
  obtain ⟨k', hk'⟩ : ∃ k' : Nat, k = k' := ⟨k.toNat, by omega⟩
  subst hk'
  obtain ⟨cm, ce, cn, cf, A, B, hc1, hc2, ha, hb, he, hf, hl1, hl2, hl3, hl4, hl5⟩ := weeks_law HRD.out.1 (k := k') (by omega) (b := a) (b' := a + b) (by omega) (by omega)
  have HA1 := Lib.hid (fun x : ExtW W => ExtW.call (Cheapest03 _ X x.w (WrV.mono _ _ _ _ (hE.trans x.h) HV.out) HRD.out.1 (modest_valid HRD.out.1)))
  have HA2 := Lib.hid (fun x : ExtW W => First03 _ X k' x.w (WrV.mono _ _ _ _ (hE.trans x.h) HV.out) HRD.out.1 (by omega))
  have HA3 := Lib.hid (fun u W5 (h : WrV W5 u (firstX X k')) => Cheapest03 u (firstX X k') W5 h (first_valid HRD.out.1 (by omega)) (modest_valid (first_valid HRD.out.1 (by omega))))
  rw [hc1] at HA1
  rw [hc2] at HA3
  have HEE := Lib.hid he
  have HEF := Lib.hid hf
  have HL1 := Lib.hid hl1
  have HL2 := Lib.hid hl2
  have HL3 := Lib.hid hl3
  have HL4 := Lib.hid hl4
  have HL5 := Lib.hid hl5
  have HLA := Lib.hid ha
  have HLB := Lib.hid hb
  clear hc1 hc2 he hf hl1 hl2 hl3 hl4 hl5 ha hb g1 hwr HR2 x0
  go_upto_region 5 with (first
    | (go_at_call_of 36 (Value.agg #[.int .i64 X.weeks, .int .i64 X.price, .int .i64 X.age, .int .i64 X.step, .slice p X.rough.length c, .slice q X.recs.length d]); refine (HA1.out _).mono ?_; rintro e w' ⟨rfl, x3, rfl⟩)
    | (go_at_call 38; refine (HA2.out _).mono ?_; rintro e W5 ⟨u, rfl, hE5, hu5⟩)
    | (go_at_call 36; refine (HA3.out _ _ hu5).mono ?_; rintro e W6 ⟨rfl, hE6⟩))
  have hE36 := x3.h.trans (hE5.trans hE6)
  have r0 := ExtW.cell (q0 ⟨W6, hE36⟩)
  have r1 := ExtW.cell (q1 ⟨W6, hE36⟩)
  have r2 := ExtW.cell (q2 ⟨W6, hE36⟩)
  have r3 := ExtW.cell (q3 ⟨W6, hE36⟩)
  have r4 := ExtW.cell (q4 ⟨W6, hE36⟩)
  have r5 := ExtW.cell (q5 ⟨W6, hE36⟩)
  have n0 := ExtW.cell (m0 ⟨W6, hE36⟩)
  have n1 := ExtW.cell (m1 ⟨W6, hE36⟩)
  simp only at r0 r1 r2 r3 r4 r5 n0 n1
  have hE6w := hE.trans hE36
  have hv6 := WrV.mono _ _ _ _ hE6w HV.out
  have HB1 := Lib.hid (fun x : ExtW W6 => ExtW.call (Last03i _ X a x.w (WrV.mono _ _ _ _ x.h hv6) HRD.out.1 (by omega) (by omega)))
  have HB2 := Lib.hid (fun x : ExtW W6 => ExtW.call (Last03i _ X (a + b) x.w (WrV.mono _ _ _ _ x.h hv6) HRD.out.1 (by omega) (by omega)))
  rw [HLA.out] at HB1
  rw [HLB.out] at HB2
  have HKE := Lib.hid (fun x : ExtW W6 => ExtW.call (isKnown03 ce HEE.out x.w))
  have HKF := Lib.hid (fun x : ExtW W6 => ExtW.call (isKnown03 cf HEF.out x.w))
  have HWK := Lib.hid (fun x : ExtW W6 => ExtW.call (works03 x.w))
  have HE6 := Lib.hid hE6w
  have hwr : IntKind.i64.wrap (a + b) = a + b := IntWalk.i64_in _ (by omega)
  have hi1 : ¬(A : Int) < 0 := by omega
  have hi2 : ¬X.weeks < (B : Int) := by have := HL2.out; omega
  have hi3 : ¬(B : Int) < (A : Int) := by have := HL3.out; omega
  clear q0 q1 q2 q3 q4 q5 m0 m1 HA1 HA2 HA3 hE5 hE6 hE36 hE6w hE hv6 hu5 x3
  obtain ⟨x0, hx0⟩ := ExtW.of (Ext.refl W6)
  conv => arg 5; rw [hx0]
  clear hx0
  go_upto_region 6 with (go_at_call 30; refine (HB1.out _).mono ?_; rintro e w' ⟨rfl, x4, rfl⟩)
  go_upto_region 7 with (go_at_call 30; refine (HB2.out _).mono ?_; rintro e w' ⟨rfl, x5, rfl⟩)
  clear x0 x4 HB1 HB2 hwr
  rcases HEE.out with h0 | h0
  · cases h0
    obtain ⟨h1, h2⟩ := HL1.out rfl
    cases h1
    have hi4 : ¬cm < cn := by omega
    clear HEF
    by_cases hAW : (A : Int) = X.weeks
    · obtain ⟨-, h3⟩ := HL4.out.1 hAW
      have hb1 : ((A : Int) == X.weeks) = true := by simp [hAW]
      have hb2 : (decide (cm ≤ a)) = true := by simpa using h3
      have hi5 : ¬(A : Int) < (k' : Int) := by omega
      obtain ⟨-, h6⟩ := HL5.out (by omega)
      have HAW := Lib.hid hAW
      clear hAW h2 h3
      go_wp2_with (first | (go_at_call 16; refine (HWK.out _).mono ?_; rintro e w' ⟨rfl, x8, rfl⟩) | (go_at_call 37; refine (HKE.out _).mono ?_; rintro e w' ⟨rfl, x6, rfl⟩) | (go_at_call 37; refine (HKF.out _).mono ?_; rintro e w' ⟨rfl, x7, rfl⟩))
      go_ret
      exact RetE.fin (HE6.out.trans x8.h) (by first | rfl | (show Value.bool (!decide (cm ≤ a)) = Value.bool true; rw [decide_eq_false (by omega)]; rfl))
    · have hb1 : ((A : Int) == X.weeks) = false := by simp [hAW]
      have h3 : ¬cm ≤ a := fun h => hAW (HL4.out.2 ⟨rfl, h⟩)
      clear hAW h2
      by_cases hi5 : (A : Int) < (k' : Int)
      · go_wp2_with (first | (go_at_call 16; refine (HWK.out _).mono ?_; rintro e w' ⟨rfl, x8, rfl⟩) | (go_at_call 37; refine (HKE.out _).mono ?_; rintro e w' ⟨rfl, x6, rfl⟩) | (go_at_call 37; refine (HKF.out _).mono ?_; rintro e w' ⟨rfl, x7, rfl⟩))
        go_ret
        exact RetE.fin (HE6.out.trans x8.h) (by first | rfl | (show Value.bool (!decide (cm ≤ a)) = Value.bool true; rw [decide_eq_false (by omega)]; rfl))
      · obtain ⟨-, h6⟩ := HL5.out (by omega)
        go_wp2_with (first | (go_at_call 16; refine (HWK.out _).mono ?_; rintro e w' ⟨rfl, x8, rfl⟩) | (go_at_call 37; refine (HKE.out _).mono ?_; rintro e w' ⟨rfl, x6, rfl⟩) | (go_at_call 37; refine (HKF.out _).mono ?_; rintro e w' ⟨rfl, x7, rfl⟩))
        go_ret
        exact RetE.fin (HE6.out.trans x8.h) (by first | rfl | (show Value.bool (!decide (cm ≤ a)) = Value.bool true; rw [decide_eq_false (by omega)]; rfl))
  · cases h0
    have hAW : ¬(A : Int) = X.weeks := fun h => absurd (HL4.out.1 h).1 (by decide)
    have hb1 : ((A : Int) == X.weeks) = false := by simp [hAW]
    clear hAW
    rcases HEF.out with h0 | h0
    · cases h0
      by_cases hi5 : (A : Int) < (k' : Int)
      · go_wp2_with (first | (go_at_call 16; refine (HWK.out _).mono ?_; rintro e w' ⟨rfl, x8, rfl⟩) | (go_at_call 37; refine (HKE.out _).mono ?_; rintro e w' ⟨rfl, x6, rfl⟩) | (go_at_call 37; refine (HKF.out _).mono ?_; rintro e w' ⟨rfl, x7, rfl⟩))
        go_ret
        exact RetE.fin (HE6.out.trans x8.h) (by first | rfl | (show Value.bool (!decide (cm ≤ a)) = Value.bool true; rw [decide_eq_false (by omega)]; rfl))
      · obtain ⟨-, h6⟩ := HL5.out (by omega)
        go_wp2_with (first | (go_at_call 16; refine (HWK.out _).mono ?_; rintro e w' ⟨rfl, x8, rfl⟩) | (go_at_call 37; refine (HKE.out _).mono ?_; rintro e w' ⟨rfl, x6, rfl⟩) | (go_at_call 37; refine (HKF.out _).mono ?_; rintro e w' ⟨rfl, x7, rfl⟩))
        go_ret
        exact RetE.fin (HE6.out.trans x8.h) (by first | rfl | (show Value.bool (!decide (cm ≤ a)) = Value.bool true; rw [decide_eq_false (by omega)]; rfl))
    · cases h0
      have hi5 : (A : Int) < (k' : Int) := by
        apply Classical.byContradiction
        intro h
        exact absurd (HL5.out (by omega)).1 (by decide)
      go_wp2_with (first | (go_at_call 16; refine (HWK.out _).mono ?_; rintro e w' ⟨rfl, x8, rfl⟩) | (go_at_call 37; refine (HKE.out _).mono ?_; rintro e w' ⟨rfl, x6, rfl⟩) | (go_at_call 37; refine (HKF.out _).mono ?_; rintro e w' ⟨rfl, x7, rfl⟩))
      go_ret
      exact RetE.fin (HE6.out.trans x8.h) (by first | rfl | (show Value.bool (!decide (cm ≤ a)) = Value.bool true; rw [decide_eq_false (by omega)]; rfl))
end Go.Proofs.Ytkcilgjkdiopnaa
