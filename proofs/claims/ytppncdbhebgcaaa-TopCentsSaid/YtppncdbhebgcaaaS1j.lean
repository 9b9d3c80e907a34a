
/- The walk of TopCents. -/
import Derived.Test.YtppncdbhebgcaaaS1h
import Derived.Test.YtppncdbhebgcaaaS1i
namespace Go.Proofs.Ytppncdbhebgcaaa
open Go.RowKit

theorem shChk_t {cs : List Cl} {loan : Int} (h : ShOK cs loan) : shChk cs loan = 0 := by unfold shChk; rw [bP_t h]; rfl
theorem shChk_f {cs : List Cl} {loan : Int} (h : ¬ShOK cs loan) : shChk cs loan = 90 := by unfold shChk; rw [bP_f h]; rfl
set_option maxRecDepth 20000 in
set_option maxHeartbeats 6400000 in
theorem TopCents10 (p : Option Addr) (cs : List Cl) (c : Nat) (loan t : Int) (v : Value) (R : Ry) (w : World) (hp : ClsAt w p cs) (hv : RyV w v R) :
    Calls Try.prog 3 #[.agg #[.slice p cs.length c, .int .i64 loan], .int .i64 t, v] w (RetE (.bool true) w) := by
  have HP := Lib.hid (fun y (h : Ext w y) => hp.ext h)
  have HV := Lib.hid (fun y (h : Ext w y) => hv.ext h)
  obtain ⟨q1, c1, q2, c2, rfl, -, -⟩ := hv
  obtain ⟨n, hn⟩ : ∃ n, n = R.owed.length := ⟨_, rfl⟩
  obtain ⟨ns, hns⟩ : ∃ n, n = R.sides.length := ⟨_, rfl⟩
  obtain ⟨pl, hpl⟩ : ∃ x, x = R.pool := ⟨_, rfl⟩
  rw [← hn, ← hns, ← hpl] at HV ⊢
  have HN := Lib.hid hn
  clear hp hn hns hpl
  go_enter Try.func3, Try.ntmps3
  go_upto_region 1 with (fail)
  obtain ⟨s0, hs0⟩ : ∃ s0, s0 = w.heap.size := ⟨_, rfl⟩
  obtain ⟨W1, hW1⟩ : ∃ W1, W1 = w.alloc (.cells #[.slice p cs.length c, .int .i64 loan] 24) := ⟨_, rfl⟩
  obtain ⟨W, hW⟩ : ∃ W, W = W1.alloc (.cells #[.int .i64 pl, .slice q1 ns c1, .slice q2 n c2] 28) := ⟨_, rfl⟩
  have z1 : W1.heap.size = s0 + 1 := by rw [hW1, size_alloc, hs0]
  have x1 : Ext w W1 := by rw [hW1]; exact Ext.alloc (Ext.refl _) _
  have x2 : Ext W1 W := by rw [hW]; exact Ext.alloc (Ext.refl _) _
  have m0 : W.heap[s0]? = some (.cells #[.slice p cs.length c, .int .i64 loan] 24) := heap_ext3 (by rw [hs0, hW1]; exact heap_new _ _) x2
  have m1 : W.heap[s0 + 1]? = some (.cells #[.int .i64 pl, .slice q1 ns c1, .slice q2 n c2] 28) := by rw [← z1, hW]; exact heap_new _ _
  rw [← hs0, ← hW1, ← hW]
  obtain ⟨s1, hs1⟩ : ∃ s1, s1 = s0 + 1 := ⟨_, rfl⟩
  rw [← hs1] at m1 ⊢
  have a0 := ExtW.cell (v := .slice p cs.length c) (cell_of_heap m0 0)
  have a1 := ExtW.cell (v := .int .i64 loan) (cell_of_heap m0 1)
  have b0 := ExtW.cell (v := .int .i64 pl) (cell_of_heap m1 0)
  have b1 := ExtW.cell (v := .slice q1 ns c1) (cell_of_heap m1 1)
  have b2 := ExtW.cell (v := .slice q2 n c2) (cell_of_heap m1 2)
  have HM0 := Lib.hid m0
  have HM1 := Lib.hid m1
  have HE := Lib.hid (x1.trans x2)
  have HSD := Lib.hid (fun x : ExtW W => ExtW.callX (x := x) (settled10 x.w))
  have HIC := Lib.hid (fun x : ExtW W => ExtW.callX (x := x) (RetQ.e (risCents09 t x.w)))
  obtain ⟨fr, hfr⟩ : ∃ fr, fr = farR R := ⟨_, rfl⟩
  have HFA := Lib.hid (fun x : ExtW W => ExtW.callX (x := x) (v := .bool fr) (by rw [hfr]; exact Far10 R _ x.w (HV.out _ (HE.out.trans x.h))))
  have HFR := Lib.hid hfr
  obtain ⟨x0, hx0⟩ := ExtW.of (Ext.refl W)
  clear hW hW1 m0 m1 hs0 z1 x1 x2 hs1 hfr
  conv => arg 5; rw [hx0]
  clear hx0
  by_cases h40 : (40 : Int) < (cs.length : Int)
  · go_wp2_with (go_at_call 8; refine (HSD.out _).mono ?_; rintro e w2 ⟨rfl, xc, rfl, -⟩)
    go_ret
    exact RetE.fin (HE.out.trans xc.h) rfl
  have hl40 : cs.length ≤ 40 := by omega
  obtain ⟨ck, hck⟩ : ∃ ck, ck = shChk cs loan := ⟨_, rfl⟩
  have HCK := Lib.hid (fun x : ExtW W => ExtW.callX (x := x) (v := .int .i64 ck) (by rw [hck]; exact rcheck09 p cs c loan x.w (HP.out _ (HE.out.trans x.h)) hl40))
  by_cases hS : ShOK cs loan
  case neg =>
    rw [shChk_f hS] at hck
    subst hck
    clear hS
    go_wp2_with (first
      | (go_at_call 5; refine (HCK.out _).mono ?_; rintro e w2 ⟨rfl, x1, rfl, -⟩)
      | (go_at_call 8; refine (HSD.out _).mono ?_; rintro e w2 ⟨rfl, xc, rfl, -⟩))
    go_ret
    exact RetE.fin (HE.out.trans xc.h) rfl
  rw [shChk_t hS] at hck
  subst hck
  have HSH := Lib.hid hS
  clear hS
  obtain ⟨ic, hic⟩ : ∃ ic, ic = bP (0 ≤ t ∧ t ≤ 9999) := ⟨_, rfl⟩
  rw [← hic] at HIC
  have HIB := Lib.hid hic
  clear hic
  cases ic with
  | false =>
    go_wp2_with (first
      | (go_at_call 5; refine (HCK.out _).mono ?_; rintro e w2 ⟨rfl, x1, rfl, -⟩)
      | (go_at_call 6; refine (HIC.out _).mono ?_; rintro e w2 ⟨rfl, x2, rfl, -⟩)
      | (go_at_call 8; refine (HSD.out _).mono ?_; rintro e w2 ⟨rfl, xc, rfl, -⟩))
    go_ret
    exact RetE.fin (HE.out.trans xc.h) rfl
  | true =>
  have HT := Lib.hid (bP_iff.1 HIB.out.symm)
  cases fr with
  | true =>
    go_wp2_with (first
      | (go_at_call 5; refine (HCK.out _).mono ?_; rintro e w2 ⟨rfl, x1, rfl, -⟩)
      | (go_at_call 6; refine (HIC.out _).mono ?_; rintro e w2 ⟨rfl, x2, rfl, -⟩)
      | (go_at_call 7; refine (HFA.out _).mono ?_; rintro e w2 ⟨rfl, x3, rfl, -⟩)
      | (go_at_call 8; refine (HSD.out _).mono ?_; rintro e w2 ⟨rfl, xc, rfl, -⟩))
    go_ret
    exact RetE.fin (HE.out.trans xc.h) rfl
  | false =>
  have HFF := Lib.hid (farR_f HFR.out.symm)
  go_upto_region 3 with (first
    | (go_at_call 5; refine (HCK.out _).mono ?_; rintro e w2 ⟨rfl, x1, rfl, -⟩)
    | (go_at_call 6; refine (HIC.out _).mono ?_; rintro e w2 ⟨rfl, x2, rfl, -⟩)
    | (go_at_call 7; refine (HFA.out _).mono ?_; rintro e w2 ⟨rfl, x3, rfl, -⟩))
  clear HCK HIC HFA h40
  have HC9 := Lib.hid (rCopy09 p cs c loan x3.w (HP.out _ (HE.out.trans x3.h)) (by omega))
  have HW9 := Lib.hid (fun y g cn (h : ClsAt y (some ⟨g, 0, none⟩) cs) => week09 (some ⟨g, 0, none⟩) cs cn loan t y h HSH.out HT.out)
  have hwk := runW_ok cs HSH.out.cl (startW_ok HT.out HSH.out.loan)
  unfold splitV at HW9
  obtain ⟨wk, hwkE⟩ : ∃ wk, wk = runW cs (startW t loan) := ⟨_, rfl⟩
  rw [← hwkE] at HW9 hwk
  obtain ⟨k1, k2, k3, -, k5, k6, k7⟩ := hwk
  obtain ⟨O, hO⟩ : ∃ O, O = wk.op + wk.rest := ⟨_, rfl⟩
  obtain ⟨wo, hwo⟩ : ∃ wo, wo = wk.ow := ⟨_, rfl⟩
  obtain ⟨rp, hrp⟩ : ∃ rp, rp = wk.rp := ⟨_, rfl⟩
  rw [← hO, ← hwo, ← hrp] at HW9
  have HF := Lib.hid (⟨by omega, by omega, by omega, by omega, by omega, by omega⟩ : (0 ≤ O ∧ O ≤ t) ∧ (0 ≤ rp ∧ rp ≤ O) ∧ (0 ≤ wo ∧ wo ≤ t) ∧ O + wo = t ∧ t ≤ 9999 ∧ 0 ≤ t)
  clear hwkE k1 k2 k3 k5 k6 k7 hO hwo hrp
  go_upto_region 4 with (first
    | (go_at_call 10; refine HC9.out.mono ?_; rintro e W2 ⟨g9, cn9, rfl, hE2, hC2⟩)
    | (go_at_call 9; refine (HW9.out _ _ _ hC2).mono ?_; rintro e W3 ⟨rfl, hE3⟩))
  obtain ⟨s4, hs4⟩ : ∃ s4, s4 = W3.heap.size := ⟨_, rfl⟩
  obtain ⟨W4, hW4⟩ : ∃ W4, W4 = W3.alloc (.cells #[.int .i64 O, .int .i64 wo, .int .i64 rp] 35) := ⟨_, rfl⟩
  have m4 : W4.heap[s4]? = some (.cells #[.int .i64 O, .int .i64 wo, .int .i64 rp] 35) := by rw [hs4, hW4]; exact heap_new _ _
  have hE4 : Ext W W4 := by rw [hW4]; exact (x3.h.trans (hE2.trans hE3)).alloc _
  rw [← hs4, ← hW4]
  have d0 : W4.cell? ⟨s4, 0, none⟩ = some (.int .i64 O) := cell_of_heap m4 0
  have d1 : W4.cell? ⟨s4, 1, none⟩ = some (.int .i64 wo) := cell_of_heap m4 1
  have d2 : W4.cell? ⟨s4, 2, none⟩ = some (.int .i64 rp) := cell_of_heap m4 2
  have n1 := heap_ext3 HM1.out hE4
  have e0 : W4.cell? ⟨s1, 0, none⟩ = some (.int .i64 pl) := cell_of_heap n1 0
  have e1 : W4.cell? ⟨s1, 1, none⟩ = some (.slice q1 ns c1) := cell_of_heap n1 1
  have e2 : W4.cell? ⟨s1, 2, none⟩ = some (.slice q2 n c2) := cell_of_heap n1 2
  have HM4 := Lib.hid m4
  have HS4 := Lib.hid (show W.heap.size ≤ s4 from by rw [hs4]; exact Nat.le_trans x3.h.size (hE2.trans hE3).size)
  have HE4 := Lib.hid hE4
  have HCR := Lib.hid (rCopy10 R _ W4 (HV.out _ (HE.out.trans hE4)) (by have := HFF.out.2.1; omega) (by have := HFF.out.1; omega) (fun s hs => by have := HFF.out.2.2 s hs; omega))
  obtain ⟨⟨f1, f2⟩, ⟨f3, f4⟩, ⟨f5, f6⟩, f7, f8, f9⟩ := HF.out
  have g1 : ¬O < 0 := by omega
  have g2 : ¬t < O := by omega
  have g3 : ¬rp < 0 := by omega
  have g4 : ¬O < rp := by omega
  have g5 : ¬wo < 0 := by omega
  have g6 : ¬t < wo := by omega
  clear hs4 hW4 m4 hE4 hE2 hE3 hC2 HC9 HW9 n1 a0 a1 b0 b1 b2 f1 f2 f3 f4 f5 f6 f7 f8 f9
  go_upto_region 7 with (go_at_call 11; refine HCR.out.mono ?_; rintro e W5 ⟨_, rfl, hE5, q5, c5, q6, c6, rfl, hS5, hI5⟩)
  obtain ⟨pl5, hpl5⟩ : ∃ x, x = R.pool := ⟨_, rfl⟩
  rw [← hpl5, ← HN.out]
  obtain ⟨s6, hs6⟩ : ∃ s6, s6 = W5.heap.size := ⟨_, rfl⟩
  obtain ⟨W6, hW6⟩ : ∃ W6, W6 = W5.alloc (.cells #[.int .i64 pl5, .slice q5 R.sides.length c5, .slice q6 n c6] 28) := ⟨_, rfl⟩
  have m6 : W6.heap[s6]? = some (.cells #[.int .i64 pl5, .slice q5 R.sides.length c5, .slice q6 n c6] 28) := by rw [hs6, hW6]; exact heap_new _ _
  have hE6 : Ext W5 W6 := by rw [hW6]; exact (Ext.refl _).alloc _
  rw [← hs6, ← hW6]
  have n4 := heap_ext3 HM4.out (hE5.trans hE6)
  have d0 : W6.cell? ⟨s4, 0, none⟩ = some (.int .i64 O) := cell_of_heap n4 0
  have d2 : W6.cell? ⟨s4, 2, none⟩ = some (.int .i64 rp) := cell_of_heap n4 2
  have d6 : W6.cell? ⟨s6, 0, none⟩ = some (.int .i64 pl5) := cell_of_heap m6 0
  have z6 : W6.frozen? ⟨s6, 0, none⟩ = false := cell_frozen m6 0
  have hs4l : s4 < s6 := by
    have h1 := (Array.getElem?_eq_some_iff.1 HM4.out).1
    have h2 := hE5.size
    omega
  have hs1l : s1 < s4 ∧ s1 < s6 := by
    have h1 := (Array.getElem?_eq_some_iff.1 HM1.out).1
    have h2 := HS4.out
    omega
  have HN4 := Lib.hid n4
  have HM6 := Lib.hid m6
  have HE6 := Lib.hid (⟨hE5, hE6, hs6⟩ : Ext W4 W5 ∧ Ext W5 W6 ∧ s6 = W5.heap.size)
  have HS5 := Lib.hid hS5
  have HI5 := Lib.hid hI5
  have hwp : IntKind.i64.wrap (O - rp) = O - rp := IntWalk.i64_in _ (by have := HF.out; omega)
  clear hs6 hW6 m6 hE6 hE5 hS5 hI5 hpl5 n4 HCR d1 e0 e1 e2
  go_upto_region 8 with (fail)
  obtain ⟨po, hpo⟩ : ∃ po, po = O - rp := ⟨_, rfl⟩
  rw [← hpo]
  obtain ⟨W7, hW7⟩ : ∃ W7, W7 = W6.setCell ⟨s6, 0, none⟩ (.int .i64 po) := ⟨_, rfl⟩
  rw [← hW7]
  have m7 : W7.heap[s6]? = some (.cells #[.int .i64 po, .slice q5 R.sides.length c5, .slice q6 n c6] 28) := by rw [hW7]; exact heap_set HM6.out rfl
  have n7 : W7.heap[s4]? = some (.cells #[.int .i64 O, .int .i64 wo, .int .i64 rp] 35) := by rw [hW7]; exact heap_set_ne (by omega) HN4.out
  have o7 : W7.heap[s1]? = some (.cells #[.int .i64 pl, .slice q1 ns c1, .slice q2 n c2] 28) := by
    rw [hW7]; exact heap_set_ne (by omega) (heap_ext3 HM1.out (HE4.out.trans (HE6.out.1.trans HE6.out.2.1)))
  have hE57 : Ext W5 W7 := by rw [hW7]; exact Ext.setCell HE6.out.2.1 (p := ⟨s6, 0, none⟩) (by show W5.heap.size ≤ s6; have := HE6.out.2.2; omega) _
  have hE7 : Ext W W7 := HE4.out.trans (HE6.out.1.trans hE57)
  obtain ⟨R2, hR2⟩ : ∃ R2 : Ry, R2 = ⟨po, R.sides, R.owed⟩ := ⟨_, rfl⟩
  have HV2 := Lib.hid (fun y (h : Ext W7 y) => (by
    rw [hR2, HN.out]
    exact ⟨q5, c5, q6, c6, rfl, HS5.out.ext (hE57.trans h), HI5.out.ext (hE57.trans h)⟩ : RyV y (.agg #[.int .i64 po, .slice q5 R.sides.length c5, .slice q6 n c6]) R2))
  have hl1 : R2.owed.length ≤ 1000 := by rw [hR2]; have := HFF.out.2.1; show R.owed.length ≤ 1000; omega
  have hl2 : R2.sides.length ≤ 1000 := by rw [hR2]; have := HFF.out.1; show R.sides.length ≤ 1000; omega
  have hl3 : ∀ s ∈ R2.sides, s.parts.length ≤ 1000 := by rw [hR2]; intro s hs; have := HFF.out.2.2 s hs; omega
  have HCK := Lib.hid (fun x : ExtW W7 => ExtW.callX (x := x) (rCheck10 R2 _ x.w (HV2.out x.w x.h) hl1 hl2 hl3))
  have HPL2 := Lib.hid (fun (h : RyOK R2) (x : ExtW W7) => ExtW.callX (x := x) (rPlays10 R2 _ x.w (HV2.out x.w x.h) h))
  have HSR := Lib.hid (fun (h : RyOK R2) (h0 : playsR R2 ≠ 0) y (hy : Ext W7 y) => (by
    have h' := Shares10 R2 _ y (HV2.out y hy) h hl3 h0
    have e1 : R2.owed.length = n := by rw [hR2, HN.out]
    have e2 : R2.pool = po := by rw [hR2]
    rw [e1, e2] at h'
    exact h' : Calls Try.prog 14 #[.agg #[.int .i64 po, .slice q5 R.sides.length c5, .slice q6 n c6]] y (fun e w' => ∃ g l, e = .returned (.tuple #[.slice (some ⟨g, 0, none⟩) n n, .int .i64 0]) ∧ l.length = n ∧ Ext y w' ∧ IsShares po (allW R2) (ofW R2) l ∧ IntsAt w' (some ⟨g, 0, none⟩) l)))
  have HOK := Lib.hid (fun (h : RyOK R2) (h0 : playsR R2 ≠ 0) l (hl : IsShares po (allW R2) (ofW R2) l) => (by
    have e1 : R2.owed.length = n := by rw [hR2, HN.out]
    have h1 := of_ok h
    rw [e1] at h1
    have h2 := plays_pos h
    have h3 := h.pool
    have e2 : R2.pool = po := by rw [hR2]
    rw [e2] at h3
    exact shares_ok (by unfold allW; omega) h3.1 h1 hl : WOK n po l))
  have a0 := ExtW.cell (v := .int .i64 po) (cell_of_heap m7 0)
  have a1 := ExtW.cell (v := .slice q5 R.sides.length c5) (cell_of_heap m7 1)
  have a2 := ExtW.cell (v := .slice q6 n c6) (cell_of_heap m7 2)
  have b1 := ExtW.cell (v := .int .i64 wo) (cell_of_heap n7 1)
  have b2 := ExtW.cell (v := .int .i64 rp) (cell_of_heap n7 2)
  have b3 := ExtW.cell (v := .slice q2 n c2) (cell_of_heap o7 2)
  have HE7 := Lib.hid hE7
  have HSD2 := Lib.hid (fun x : ExtW W7 => ExtW.callX (x := x) (settled10 x.w))
  have HPO := Lib.hid hpo
  obtain ⟨x7, hx7⟩ := ExtW.of (Ext.refl W7)
  clear hW7 m7 n7 o7 hE57 hE7 hR2 hl1 hl2 hl3 d0 d2 d6 z6 hs4l hs1l hwp hpo g1 g2 g3 g4 g5 g6
  conv => arg 5; rw [hx7]
  clear hx7
  by_cases hok : RyOK R2
  case neg =>
    rw [chkR_f hok] at HCK
    clear hok
    go_wp2_with (first
      | (go_at_call 12; refine (HCK.out _).mono ?_; rintro e w2 ⟨rfl, y1, rfl, -⟩)
      | (go_at_call 8; refine (HSD2.out _).mono ?_; rintro e w2 ⟨rfl, xc, rfl, -⟩))
    go_ret
    exact RetE.fin (HE.out.trans (HE7.out.trans xc.h)) rfl
  rw [chkR_t hok] at HCK
  have hpl2 := HPL2.out hok
  obtain ⟨pn, hpn⟩ : ∃ pn, pn = playsR R2 := ⟨_, rfl⟩
  rw [← hpn] at hpl2
  have HPN := Lib.hid hpl2
  have HRK := Lib.hid hok
  clear hpl2 hok
  by_cases hp0 : pn = 0
  · subst hp0
    clear hpn
    go_wp2_with (first
      | (go_at_call 12; refine (HCK.out _).mono ?_; rintro e w2 ⟨rfl, y1, rfl, -⟩)
      | (go_at_call 13; refine (HPN.out _).mono ?_; rintro e w2 ⟨rfl, y2, rfl, -⟩)
      | (go_at_call 8; refine (HSD2.out _).mono ?_; rintro e w2 ⟨rfl, xc, rfl, -⟩))
    go_ret
    exact RetE.fin (HE.out.trans (HE7.out.trans xc.h)) rfl
  have hpb : (pn == 0) = false := by rw [beq_eq_false_iff_ne]; exact hp0
  have HP0 := Lib.hid (show playsR R2 ≠ 0 from by rw [← hpn]; exact hp0)
  clear hpn hp0
  have HS8 := Lib.hid (HSR.out HRK.out HP0.out)
  go_upto_region 11 with (first
    | (go_at_call 12; refine (HCK.out _).mono ?_; rintro e w2 ⟨rfl, y1, rfl, -⟩)
    | (go_at_call 13; refine (HPN.out _).mono ?_; rintro e w2 ⟨rfl, y2, rfl, -⟩)
    | (go_at_call 14; refine (HS8.out _ y2.h).mono ?_; rintro e W8 ⟨g8, l, rfl, hll, hE8, hSh8, hI8⟩))
  have HW := Lib.hid (HOK.out HRK.out HP0.out l hSh8)
  have hE78 : Ext W7 W8 := y2.h.trans hE8
  have HE8 := Lib.hid hE78
  have HI8 := Lib.hid hI8
  have HLL : EqS l.length n := ⟨hll⟩
  have k0 : ∀ z : ExtW W8, z.w.cell? ⟨s6, 0, none⟩ = some (.int .i64 po) := fun z => a0 ⟨z.w, hE78.trans z.h⟩
  have k1 : ∀ z : ExtW W8, z.w.cell? ⟨s4, 1, none⟩ = some (.int .i64 wo) := fun z => b1 ⟨z.w, hE78.trans z.h⟩
  have k2 : ∀ z : ExtW W8, z.w.cell? ⟨s4, 2, none⟩ = some (.int .i64 rp) := fun z => b2 ⟨z.w, hE78.trans z.h⟩
  have k3 : ∀ z : ExtW W8, z.w.cell? ⟨s1, 2, none⟩ = some (.slice q2 n c2) := fun z => b3 ⟨z.w, hE78.trans z.h⟩
  have HSD8 := Lib.hid (fun z : ExtW W8 => ExtW.callX (x := z) (settled10 z.w))
  have hn40 : n ≤ 40 := by have := HFF.out.2.1; have := HN.out; omega
  obtain ⟨⟨f1, f2⟩, ⟨f3, f4⟩, ⟨f5, f6⟩, f7, f8, f9⟩ := HF.out
  have hw1 : IntKind.i64.wrap (wo + rp) = wo + rp := IntWalk.i64_in _ (by omega)
  obtain ⟨z8, hz8⟩ := ExtW.of (Ext.refl W8)
  clear hll hE8 hSh8 hI8 hE78 a0 a1 a2 b1 b2 b3 hpb HCK HPN HPL2 HSR HS8 HOK
  conv => arg 5; rw [hz8]
  clear hz8
  go_wp2
  go_loopw [11, 12] (fun a i wr => ∃ k : Nat, k ≤ n ∧ i = .int .i64 k ∧ a = .int .i64 (wo + rp + (l.take k).sum) ∧ ∃ x : ExtW W8, wr = x.w) (fun _ i _ => n - (intOf i).toNat)
  case atStart => exact ⟨0, Nat.zero_le _, rfl, by simp, z8, rfl⟩
  case round =>
    obtain ⟨k, hk, rfl, rfl, x, rfl⟩ := hrel
    have hpre := WOK.take HW.out k
    obtain ⟨sm, hsm⟩ : ∃ sm, sm = wo + rp + (l.take k).sum := ⟨_, rfl⟩
    rw [← hsm]
    have HSM := Lib.hid hsm
    have hpo1 := HPO.out
    have hsb : 0 ≤ sm ∧ sm ≤ 30000 := by omega
    clear hsm hpre hpo1
    by_cases hlt : k < n
    · have hlt' : (k : Int) < (n : Int) := by omega
      have hkl : k < l.length := by rw [HLL.out]; exact hlt
      obtain ⟨b', o', e, hc⟩ := HI8.out.at k hkl
      cases e
      rw [Nat.zero_add] at hc
      have h1 := HW.out.pos l[k] (List.getElem_mem _)
      have h2 := HW.out.le l[k] (List.getElem_mem _)
      have hts := take_sum k hkl
      rw [List.getD_eq_getElem?_getD, List.getElem?_eq_getElem hkl] at hts
      have hts2 : (l.take (k + 1)).sum = (l.take k).sum + l[k] := hts
      obtain ⟨u, hu⟩ : ∃ u, u = l[k] := ⟨_, rfl⟩
      rw [← hu] at hc h1 h2 hts2
      have c0 := ExtW.cell hc
      have HTS := Lib.hid hts2
      have j1 : ¬u < 0 := by omega
      have j2 : ¬po < u := by omega
      have hw2 : IntKind.i64.wrap (sm + u) = sm + u := IntWalk.i64_in _ (by have := HPO.out; omega)
      clear hc hts hts2 hu h1 h2
      go_upto_region 17 with (fail)
      refine wp_region_extW (by kernel_rfl) (by kernel_rfl) ?_
      repeat (go_big_quiet_step (fail))
      refine wpQuiet_nil ?_
      rintro _ ⟨z9, rfl⟩
      go_wp2
      exact ⟨⟨k + 1, by omega, by simp, by have h1 := HTS.out; have h2 := HSM.out; first | omega | (congr 1; omega), z9, rfl⟩, by simp [intOf]; omega⟩
    · obtain rfl : k = n := by omega
      have hge : ¬((k : Int) < (k : Int)) := by omega
      have hfin : sm = t := by
        have h1 := HSM.out
        rw [List.take_of_length_le (by rw [HLL.out]; exact Nat.le_refl _), HW.out.sum] at h1
        have h2 := HPO.out
        omega
      subst hfin
      clear hlt
      go_wp2_with (go_at_call 8; refine (HSD8.out _).mono ?_; rintro e w2 ⟨rfl, xc, rfl, -⟩)
      go_ret
      exact RetE.fin (HE.out.trans (HE7.out.trans (HE8.out.trans xc.h))) rfl
end Go.Proofs.Ytppncdbhebgcaaa
