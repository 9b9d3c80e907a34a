
/- TopCents: royals in memory; the reference's IsWriter, isSide, Check and Plays; Far. -/
import Derived.Test.YtppncdbhebgcaaaS1a
import Derived.Test.YtppncdbhebgcaaaXK
namespace Go.Proofs.Ytppncdbhebgcaaa
open Go.RowKit

def SidesAt (w : World) (p : Option Addr) (L : List Sd) : Prop :=
  ∀ i (h : i < L.length), ∃ b o q c, p = some ⟨b, o, none⟩ ∧ w.cell? ⟨b, o + i * 2, none⟩ = some (.int .i64 L[i].plays) ∧ w.cell? ⟨b, o + i * 2 + 1, none⟩ = some (.slice q L[i].parts.length c) ∧ PairsAt w q L[i].parts
theorem SidesAt.ext {w w' : World} {p : Option Addr} {L : List Sd} (h : SidesAt w p L) (hE : Ext w w') : SidesAt w' p L := fun i hi => by
  obtain ⟨b, o, q, c, e, h1, h2, h3⟩ := h i hi
  exact ⟨b, o, q, c, e, hE.cell h1, hE.cell h2, h3.ext hE⟩
/-- a royal by value -/
def RyV (w : World) (v : Value) (R : Ry) : Prop := ∃ p c q d, v = .agg #[.int .i64 R.pool, .slice p R.sides.length c, .slice q R.owed.length d] ∧ SidesAt w p R.sides ∧ IntsAt w q R.owed
theorem RyV.ext {w w' : World} {v : Value} {R : Ry} (h : RyV w v R) (hE : Ext w w') : RyV w' v R := by
  obtain ⟨p, c, q, d, e, h1, h2⟩ := h
  exact ⟨p, c, q, d, e, h1.ext hE, h2.ext hE⟩

theorem rwithin10 (n lo hi : Int) (w : World) : Calls Try.prog 25 #[.int .i64 n, .int .i64 lo, .int .i64 hi] w (RetE (.bool (winB n lo hi)) w) := by
  have HC := Lib.hid (Within02 n lo hi w)
  go_enter Try.func25, Try.ntmps25
  go_wp2_with (go_at_call 29; refine HC.out.mono ?_; rintro e w1 ⟨rfl, hE⟩)
  go_ret
  exact RetE.fin hE rfl

set_option maxRecDepth 20000 in
theorem rIsWriter10 (R : Ry) (n : Int) (v : Value) (w : World) (hv : RyV w v R) (hl : R.owed.length ≤ 1000) :
    Calls Try.prog 41 #[v, .int .i64 n] w (RetE (.bool (winB n 0 ((R.owed.length : Int) - 1))) w) := by
  obtain ⟨p, c, q, d, rfl, -, -⟩ := hv
  have HC := Lib.hid (fun y => rwithin10 n 0 ((R.owed.length : Int) - 1) y)
  have hw : IntKind.i64.wrap ((R.owed.length : Int) - 1) = (R.owed.length : Int) - 1 := IntWalk.i64_in _ (by omega)
  go_enter Try.func41, Try.ntmps41
  go_upto_region 1 with (fail)
  obtain ⟨s0, hs0⟩ : ∃ s0, s0 = w.heap.size := ⟨_, rfl⟩
  obtain ⟨W, hW⟩ : ∃ W, W = w.alloc (.cells #[.int .i64 R.pool, .slice p R.sides.length c, .slice q R.owed.length d] 28) := ⟨_, rfl⟩
  have m0 : W.heap[s0]? = some (.cells #[.int .i64 R.pool, .slice p R.sides.length c, .slice q R.owed.length d] 28) := by rw [hs0, hW]; exact heap_new _ _
  have hE : Ext w W := by rw [hW]; exact Ext.alloc (Ext.refl _) _
  rw [← hs0, ← hW]
  have a2 : W.cell? ⟨s0, 2, none⟩ = some (.slice q R.owed.length d) := cell_of_heap m0 2
  have HE := Lib.hid hE
  clear hW m0 hE hs0
  go_wp2_with (go_at_call 25; refine (HC.out _).mono ?_; rintro e w1 ⟨rfl, hE1⟩)
  go_ret
  exact RetE.fin (HE.out.trans hE1) rfl

theorem getP_at1 {l : List (Int × Int)} {i : Nat} (h : i < l.length) : l.getD i (0, 0) = l[i] := by
  rw [List.getD_eq_getElem?_getD, List.getElem?_eq_getElem h]; rfl
theorem pct_snoc {l : List (Int × Int)} {k : Nat} (h : k < l.length) : pctS (l.take (k + 1)) = pctS (l.take k) + l[k].2 := by
  unfold pctS
  rw [take_snoc h, List.map_append, List.sum_append]
  simp
theorem pct_bd {n : Nat} {l : List (Int × Int)} : ∀ k, k ≤ l.length → (∀ t, t < k → PartOK n l t) → 0 ≤ pctS (l.take k) ∧ pctS (l.take k) ≤ 100 * k
  | 0, _, _ => by simp [pctS]
  | k + 1, hk, h => by
    have ih := pct_bd k (by omega) (fun t ht => h t (by omega))
    obtain ⟨-, -, -, h3, h4⟩ := h k (by omega)
    rw [getP_at1 (by omega)] at h3 h4
    rw [pct_snoc (by omega)]
    omega

set_option maxRecDepth 20000 in
set_option maxHeartbeats 3200000 in
theorem rIsSide10 (R : Ry) (s : Sd) (v : Value) (q : Option Addr) (c : Nat) (w : World) (hv : RyV w v R) (hq : PairsAt w q s.parts) (hl : R.owed.length ≤ 1000) (hm : s.parts.length ≤ 1000) :
    Calls Try.prog 26 #[v, .agg #[.int .i64 s.plays, .slice q s.parts.length c]] w (RetE (.bool (bP (SideOK R.owed.length s))) w) := by
  have HV := Lib.hid (fun y (h : Ext w y) => hv.ext h)
  obtain ⟨p, cp, r, d, rfl, -, -⟩ := hv
  have HQ := Lib.hid hq
  obtain ⟨pl, hpl⟩ : ∃ x, x = s.plays := ⟨_, rfl⟩
  have HPL := Lib.hid hpl
  rw [← hpl]
  clear hq hpl
  go_enter Try.func26, Try.ntmps26
  go_upto_region 1 with (fail)
  obtain ⟨s0, hs0⟩ : ∃ s0, s0 = w.heap.size := ⟨_, rfl⟩
  obtain ⟨W1, hW1⟩ : ∃ W1, W1 = w.alloc (.cells #[.int .i64 R.pool, .slice p R.sides.length cp, .slice r R.owed.length d] 28) := ⟨_, rfl⟩
  obtain ⟨W, hW⟩ : ∃ W, W = W1.alloc (.cells #[.int .i64 pl, .slice q s.parts.length c] 72) := ⟨_, rfl⟩
  have z1 : W1.heap.size = s0 + 1 := by rw [hW1, size_alloc, hs0]
  have x1 : Ext w W1 := by rw [hW1]; exact Ext.alloc (Ext.refl _) _
  have x2 : Ext W1 W := by rw [hW]; exact Ext.alloc (Ext.refl _) _
  have m0 : W.heap[s0]? = some (.cells #[.int .i64 R.pool, .slice p R.sides.length cp, .slice r R.owed.length d] 28) := heap_ext3 (by rw [hs0, hW1]; exact heap_new _ _) x2
  have m1 : W.heap[s0 + 1]? = some (.cells #[.int .i64 pl, .slice q s.parts.length c] 72) := by rw [← z1, hW]; exact heap_new _ _
  rw [← hs0, ← hW1, ← hW]
  have a0 := ExtW.cell (v := .int .i64 R.pool) (cell_of_heap m0 0)
  have a1 := ExtW.cell (v := .slice p R.sides.length cp) (cell_of_heap m0 1)
  have a2 := ExtW.cell (v := .slice r R.owed.length d) (cell_of_heap m0 2)
  have b0 := ExtW.cell (v := .int .i64 pl) (cell_of_heap m1 0)
  have b1 := ExtW.cell (v := .slice q s.parts.length c) (cell_of_heap m1 1)
  have HE := Lib.hid (x1.trans x2)
  have HIW := Lib.hid (fun n (x : ExtW W) => rIsWriter10 R n _ x.w (HV.out _ (HE.out.trans x.h)) hl)
  have HWP := Lib.hid (fun x : ExtW W => ExtW.callX (x := x) (rwithin10 pl 0 9999 x.w))
  obtain ⟨x0, hx0⟩ := ExtW.of (Ext.refl W)
  clear hW hW1 m0 m1 hs0 z1 x1 x2
  conv => arg 5; rw [hx0]
  clear hx0
  go_wp2
  go_loopw [5, 6] (fun a i wr => ∃ k : Nat, k ≤ s.parts.length ∧ a = .int .i64 (pctS (s.parts.take k)) ∧ i = .int .i64 k ∧ (∀ t, t < k → PartOK R.owed.length s.parts t) ∧ ∃ x : ExtW W, wr = x.w) (fun _ i _ => s.parts.length - (intOf i).toNat)
  case atStart => exact ⟨0, Nat.zero_le _, rfl, rfl, fun t h => by omega, x0, rfl⟩
  case round =>
    obtain ⟨k, hk, rfl, rfl, ha, x, rfl⟩ := hrel
    have HA := Lib.hid ha
    obtain ⟨sm, hsm⟩ : ∃ sm, sm = pctS (s.parts.take k) := ⟨_, rfl⟩
    have hsb := pct_bd k hk ha
    rw [← hsm] at hsb ⊢
    have HSM := Lib.hid hsm
    clear ha hsm
    by_cases hlt : k < s.parts.length
    · have hlt' : (k : Int) < (s.parts.length : Int) := by omega
      obtain ⟨b, o, rfl, hc0, hc1⟩ := HQ.out k hlt
      have k0 := x.h.cell (HE.out.cell hc0)
      have k1 := x.h.cell (HE.out.cell hc1)
      have HG := Lib.hid (getP_at1 hlt)
      have HPS := Lib.hid (pct_snoc hlt)
      obtain ⟨u, hu⟩ : ∃ u, u = s.parts[k].1 := ⟨_, rfl⟩
      obtain ⟨t, ht⟩ : ∃ t, t = s.parts[k].2 := ⟨_, rfl⟩
      rw [← hu] at k0
      rw [← ht] at k1
      have HU := Lib.hid hu
      have HT := Lib.hid ht
      clear hc0 hc1 hu ht
      go_upto_region 6 with (fail)
      obtain ⟨s2, hs2⟩ : ∃ s2, s2 = x.w.heap.size := ⟨_, rfl⟩
      obtain ⟨W2, hW2⟩ : ∃ W2, W2 = x.w.alloc (.cells #[.int .i64 u, .int .i64 t] 104) := ⟨_, rfl⟩
      have m2 : W2.heap[s2]? = some (.cells #[.int .i64 u, .int .i64 t] 104) := by rw [hs2, hW2]; exact heap_new _ _
      have hE2 : Ext W W2 := by rw [hW2]; exact x.h.alloc _
      rw [← hs2, ← hW2]
      have c0 := ExtW.cell (v := .int .i64 u) (cell_of_heap m2 0)
      have c1 := ExtW.cell (v := .int .i64 t) (cell_of_heap m2 1)
      have d0 : ∀ z : ExtW W2, z.w.cell? ⟨s0, 0, none⟩ = some (.int .i64 R.pool) := fun z => a0 ⟨z.w, hE2.trans z.h⟩
      have d1 : ∀ z : ExtW W2, z.w.cell? ⟨s0, 1, none⟩ = some (.slice p R.sides.length cp) := fun z => a1 ⟨z.w, hE2.trans z.h⟩
      have d2 : ∀ z : ExtW W2, z.w.cell? ⟨s0, 2, none⟩ = some (.slice r R.owed.length d) := fun z => a2 ⟨z.w, hE2.trans z.h⟩
      have d3 : ∀ z : ExtW W2, z.w.cell? ⟨s0 + 1, 0, none⟩ = some (.int .i64 pl) := fun z => b0 ⟨z.w, hE2.trans z.h⟩
      have d4 : ∀ z : ExtW W2, z.w.cell? ⟨s0 + 1, 1, none⟩ = some (.slice (some ⟨b, o, none⟩) s.parts.length c) := fun z => b1 ⟨z.w, hE2.trans z.h⟩
      obtain ⟨g1, hg1⟩ : ∃ g, g = winB u 0 ((R.owed.length : Int) - 1) := ⟨_, rfl⟩
      obtain ⟨g2, hg2⟩ : ∃ g, g = winB t 1 100 := ⟨_, rfl⟩
      have HC1 := Lib.hid (fun z : ExtW W2 => ExtW.call (x := z) (v := .bool g1) (by rw [hg1]; exact HIW.out u ⟨z.w, hE2.trans z.h⟩))
      have HC2 := Lib.hid (fun z : ExtW W2 => ExtW.call (x := z) (v := .bool g2) (by rw [hg2]; exact rwithin10 t 1 100 z.w))
      have HG1 := Lib.hid hg1
      have HG2 := Lib.hid hg2
      have HE2 := Lib.hid hE2
      have HB := Lib.hid (⟨a0, a1, a2, b0, b1⟩ : _ ∧ _ ∧ _ ∧ _ ∧ _)
      obtain ⟨z0, hz0⟩ := ExtW.of (Ext.refl W2)
      clear hs2 hW2 m2 hE2 hg1 hg2 a0 a1 a2 b0 b1 k0 k1
      conv => arg 5; rw [hz0]
      clear hz0
      cases g1 with
      | false =>
        have HF := Lib.hid (show bP (SideOK R.owed.length s) = false from bP_f fun h => by
          have h1 := h.pa k hlt
          have h2 := h1.lo
          have h3 := h1.hi
          rw [HG.out, ← HU.out] at h2 h3
          have := HG1.out
          rw [winB_t h2 (by omega)] at this
          cases this)
        refine wp_region_extW (by kernel_rfl) (by kernel_rfl) ?_
        repeat (go_big_quiet_step ((go_at_call 41; exact HC1.out _)))
        refine wpQuiet_nil ?_
        rintro _ ⟨z2, rfl⟩
        go_wp2
        go_ret
        exact RetE.fin (HE.out.trans (HE2.out.trans z2.h)) (by rw [HF.out]; rfl)
      | true =>
        rcases (show k = 0 ∨ ∃ m, k = m + 1 from by cases k with | zero => exact Or.inl rfl | succ m => exact Or.inr ⟨m, rfl⟩) with rfl | ⟨m, rfl⟩
        · have hk00 : ¬((0 : Int) < (0 : Int)) := by omega
          cases g2 with
          | false =>
            have HF := Lib.hid (show bP (SideOK R.owed.length s) = false from bP_f fun h => by
              have h1 := h.pa _ hlt
              have h2 := h1.p1
              have h3 := h1.p2
              rw [HG.out, ← HT.out] at h2 h3
              have := HG2.out
              rw [winB_t h2 h3] at this
              cases this)
            refine wp_region_extW (by kernel_rfl) (by kernel_rfl) ?_
            repeat (go_big_quiet_step (first | (go_at_call 41; exact HC1.out _) | (go_at_call 25; exact HC2.out _)))
            refine wpQuiet_nil ?_
            rintro _ ⟨z2, rfl⟩
            go_wp2
            go_ret
            exact RetE.fin (HE.out.trans (HE2.out.trans z2.h)) (by rw [HF.out]; rfl)
          | true =>
            have hgb := winB_iff.1 HG1.out.symm
            have hgt := winB_iff.1 HG2.out.symm
            have HP := Lib.hid (show PartOK R.owed.length s.parts (0) from ⟨by rw [HG.out, ← HU.out]; omega, by rw [HG.out, ← HU.out]; omega, Or.inl rfl, by rw [HG.out, ← HT.out]; omega, by rw [HG.out, ← HT.out]; omega⟩)
            have hws : IntKind.i64.wrap (sm + t) = sm + t := IntWalk.i64_in _ (by omega)
            clear hgb
            refine wp_region_extW (by kernel_rfl) (by kernel_rfl) ?_
            repeat (go_big_quiet_step (first | (go_at_call 41; exact HC1.out _) | (go_at_call 25; exact HC2.out _)))
            refine wpQuiet_nil ?_
            rintro _ ⟨z2, rfl⟩
            go_wp2
            go_roundw
            case rel => exact ⟨0 + 1, by omega, by rw [HPS.out, ← HT.out, ← HSM.out], by simp, fun t ht => by
              by_cases e : t < 0
              · exact HA.out t e
              · obtain rfl : t = 0 := by omega
                exact HP.out, ⟨z2.w, HE2.out.trans z2.h⟩, rfl⟩
            case measure => simp [intOf]; omega
        · obtain ⟨b', o', e, hd0, -⟩ := HQ.out m (by omega)
          cases e
          have q0 := ExtW.cell (HE2.out.cell (HE.out.cell hd0))
          have HGM := Lib.hid (getP_at1 (l := s.parts) (i := m) (by omega))
          obtain ⟨u', hu'⟩ : ∃ u', u' = s.parts[m].1 := ⟨_, rfl⟩
          rw [← hu'] at q0
          have HU' := Lib.hid hu'
          have hw0 : IntKind.i64.wrap (m : Int) = (m : Int) := IntWalk.i64_in _ (by omega)
          have hm0 : (0 : Int) < (m : Int) + 1 := by omega
          have hmt : ((m : Int) + 1).toNat = m + 1 := by omega
          have hlm : (m : Int) < (s.parts.length : Int) := by omega
          clear hd0 hu'
          by_cases hup : u ≤ u'
          · have HF := Lib.hid (show bP (SideOK R.owed.length s) = false from bP_f fun h => by
              rcases (h.pa _ hlt).up with h1 | h1
              · omega
              · rw [HG.out, ← HU.out, show m + 1 - 1 = m from rfl, HGM.out, ← HU'.out] at h1
                omega)
            refine wp_region_extW (by kernel_rfl) (by kernel_rfl) ?_
            repeat (go_big_quiet_step (first | (go_at_call 41; exact HC1.out _) | (go_at_call 25; exact HC2.out _)))
            refine wpQuiet_nil ?_
            rintro _ ⟨z2, rfl⟩
            go_wp2
            go_ret
            exact RetE.fin (HE.out.trans (HE2.out.trans z2.h)) (by rw [HF.out]; rfl)
          · have hun : u' < u := by omega
            have HUN := Lib.hid hun
            clear hun
            cases g2 with
            | false =>
              have HF := Lib.hid (show bP (SideOK R.owed.length s) = false from bP_f fun h => by
                have h1 := h.pa _ hlt
                have h2 := h1.p1
                have h3 := h1.p2
                rw [HG.out, ← HT.out] at h2 h3
                have := HG2.out
                rw [winB_t h2 h3] at this
                cases this)
              refine wp_region_extW (by kernel_rfl) (by kernel_rfl) ?_
              repeat (go_big_quiet_step (first | (go_at_call 41; exact HC1.out _) | (go_at_call 25; exact HC2.out _)))
              refine wpQuiet_nil ?_
              rintro _ ⟨z2, rfl⟩
              go_wp2
              go_ret
              exact RetE.fin (HE.out.trans (HE2.out.trans z2.h)) (by rw [HF.out]; rfl)
            | true =>
              have hgb := winB_iff.1 HG1.out.symm
              have hgt := winB_iff.1 HG2.out.symm
              have HP := Lib.hid (show PartOK R.owed.length s.parts (m + 1) from ⟨by rw [HG.out, ← HU.out]; omega, by rw [HG.out, ← HU.out]; omega, Or.inr (by rw [HG.out, ← HU.out, show m + 1 - 1 = m from rfl, HGM.out, ← HU'.out]; exact HUN.out), by rw [HG.out, ← HT.out]; omega, by rw [HG.out, ← HT.out]; omega⟩)
              have hws : IntKind.i64.wrap (sm + t) = sm + t := IntWalk.i64_in _ (by omega)
              clear hgb
              refine wp_region_extW (by kernel_rfl) (by kernel_rfl) ?_
              repeat (go_big_quiet_step (first | (go_at_call 41; exact HC1.out _) | (go_at_call 25; exact HC2.out _)))
              refine wpQuiet_nil ?_
              rintro _ ⟨z2, rfl⟩
              go_wp2
              go_roundw
              case rel => exact ⟨m + 1 + 1, by omega, by rw [HPS.out, ← HT.out, ← HSM.out], by simp, fun t ht => by
                by_cases e : t < m + 1
                · exact HA.out t e
                · obtain rfl : t = m + 1 := by omega
                  exact HP.out, ⟨z2.w, HE2.out.trans z2.h⟩, rfl⟩
              case measure => simp [intOf]; omega
    · obtain rfl : k = s.parts.length := by omega
      have hge : ¬((s.parts.length : Int) < (s.parts.length : Int)) := by omega
      rw [List.take_length] at HSM
      obtain ⟨g, hg⟩ : ∃ g, g = winB pl 0 9999 := ⟨_, rfl⟩
      rw [← hg] at HWP
      have HG := Lib.hid hg
      clear hg hlt
      cases g with
      | false =>
        have HF := Lib.hid (show bP (SideOK R.owed.length s) = false from bP_f fun h => by
          have h1 := h.pl
          rw [← HPL.out] at h1
          have := HG.out
          rw [winB_t h1.1 h1.2] at this
          cases this)
        go_wp2_with (go_at_call 25; refine (HWP.out _).mono ?_; rintro e _ ⟨rfl, z2, rfl, -⟩)
        go_ret
        exact RetE.fin (HE.out.trans z2.h) (by rw [HF.out]; rfl)
      | true =>
        by_cases h100 : sm = 100
        · have HF := Lib.hid (show bP (SideOK R.owed.length s) = true from bP_t ⟨by rw [← HPL.out]; exact winB_iff.1 HG.out.symm, HA.out, by rw [← HSM.out]; exact h100⟩)
          subst h100
          go_wp2_with (go_at_call 25; refine (HWP.out _).mono ?_; rintro e _ ⟨rfl, z2, rfl, -⟩)
          go_ret
          exact RetE.fin (HE.out.trans z2.h) (by rw [HF.out]; rfl)
        · have HF := Lib.hid (show bP (SideOK R.owed.length s) = false from bP_f fun h => h100 (by rw [HSM.out]; exact h.sm))
          have hne : (sm == 100) = false := by rw [beq_eq_false_iff_ne]; exact h100
          clear h100
          go_wp2_with (go_at_call 25; refine (HWP.out _).mono ?_; rintro e _ ⟨rfl, z2, rfl, -⟩)
          go_ret
          exact RetE.fin (HE.out.trans z2.h) (by rw [HF.out]; rfl)
end Go.Proofs.Ytppncdbhebgcaaa
