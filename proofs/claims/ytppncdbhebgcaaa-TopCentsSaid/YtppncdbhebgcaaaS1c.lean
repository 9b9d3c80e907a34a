
/- TopCents: the walks of the reference's Check and Plays of a royal, and of Far. -/
import Derived.Test.YtppncdbhebgcaaaS1b
namespace Go.Proofs.Ytppncdbhebgcaaa
open Go.RowKit

noncomputable def chkR (R : Ry) : Int := if bP (RyOK R) = true then 0 else 100
theorem chkR_t {R : Ry} (h : RyOK R) : chkR R = 0 := by unfold chkR; rw [bP_t h]; rfl
theorem chkR_f {R : Ry} (h : ¬RyOK R) : chkR R = 100 := by unfold chkR; rw [bP_f h]; rfl

set_option maxRecDepth 20000 in
set_option maxHeartbeats 3200000 in
theorem rCheck10 (R : Ry) (v : Value) (w : World) (hv : RyV w v R) (hl : R.owed.length ≤ 1000) (hm : R.sides.length ≤ 1000) (hps : ∀ s ∈ R.sides, s.parts.length ≤ 1000) :
    Calls Try.prog 12 #[v] w (RetE (.int .i64 (chkR R)) w) := by
  have HV := Lib.hid (fun y (h : Ext w y) => hv.ext h)
  obtain ⟨p, c, q, d, rfl, hp, hq⟩ := hv
  have HP := Lib.hid hp
  have HQ := Lib.hid hq
  have HPS := Lib.hid hps
  obtain ⟨pl, hpl⟩ : ∃ x, x = R.pool := ⟨_, rfl⟩
  have HPL := Lib.hid hpl
  rw [← hpl] at HV ⊢
  clear hp hq hps hpl
  go_enter Try.func12, Try.ntmps12
  go_upto_region 1 with (fail)
  obtain ⟨s0, hs0⟩ : ∃ s0, s0 = w.heap.size := ⟨_, rfl⟩
  obtain ⟨W, hW⟩ : ∃ W, W = w.alloc (.cells #[.int .i64 pl, .slice p R.sides.length c, .slice q R.owed.length d] 28) := ⟨_, rfl⟩
  have m0 : W.heap[s0]? = some (.cells #[.int .i64 pl, .slice p R.sides.length c, .slice q R.owed.length d] 28) := by rw [hs0, hW]; exact heap_new _ _
  have hE : Ext w W := by rw [hW]; exact Ext.alloc (Ext.refl _) _
  rw [← hs0, ← hW]
  have a0 := ExtW.cell (v := .int .i64 pl) (cell_of_heap m0 0)
  have a1 := ExtW.cell (v := .slice p R.sides.length c) (cell_of_heap m0 1)
  have a2 := ExtW.cell (v := .slice q R.owed.length d) (cell_of_heap m0 2)
  have HE := Lib.hid hE
  have HWI := Lib.hid (fun n lo hi (x : ExtW W) => ExtW.callX (x := x) (rwithin10 n lo hi x.w))
  obtain ⟨g1, hg1⟩ : ∃ g, g = winB pl 0 9999 := ⟨_, rfl⟩
  have hwp := fun x : ExtW W => HWI.out pl 0 9999 x
  rw [← hg1] at hwp
  have HWP := Lib.hid hwp
  have HG1 := Lib.hid hg1
  obtain ⟨x0, hx0⟩ := ExtW.of (Ext.refl W)
  clear hW m0 hE hs0 hg1 hwp
  conv => arg 5; rw [hx0]
  clear hx0
  cases g1 with
  | false =>
    have HF := Lib.hid (show chkR R = 100 from chkR_f fun h => by
      have h1 := h.pool
      rw [← HPL.out] at h1
      have := HG1.out
      rw [winB_t h1.1 h1.2] at this
      cases this)
    go_wp2_with (go_at_call 25; refine (HWP.out _).mono ?_; rintro e _ ⟨rfl, x1, rfl, -⟩)
    go_ret
    exact RetE.fin (HE.out.trans x1.h) (by rw [HF.out]; rfl)
  | true =>
    by_cases h6 : (6 : Int) < (R.owed.length : Int)
    · have HF := Lib.hid (show chkR R = 100 from chkR_f fun h => by have := h.nw; omega)
      go_wp2_with (go_at_call 25; refine (HWP.out _).mono ?_; rintro e _ ⟨rfl, x1, rfl, -⟩)
      go_ret
      exact RetE.fin (HE.out.trans x1.h) (by rw [HF.out]; rfl)
    by_cases h7 : (6 : Int) < (R.sides.length : Int)
    · have HF := Lib.hid (show chkR R = 100 from chkR_f fun h => by have := h.ns; omega)
      go_wp2_with (go_at_call 25; refine (HWP.out _).mono ?_; rintro e _ ⟨rfl, x1, rfl, -⟩)
      go_ret
      exact RetE.fin (HE.out.trans x1.h) (by rw [HF.out]; rfl)
    go_upto_region 3 with (go_at_call 25; refine (HWP.out _).mono ?_; rintro e _ ⟨rfl, x1, rfl, -⟩)
    have HNN := Lib.hid (⟨by omega, by omega⟩ : R.owed.length ≤ 6 ∧ R.sides.length ≤ 6)
    clear h6 h7
    go_wp2
    go_loopw [3] (fun i wr => ∃ k : Nat, k ≤ R.owed.length ∧ i = .int .i64 k ∧ (∀ t (h : t < R.owed.length), t < k → 0 ≤ R.owed[t] ∧ R.owed[t] ≤ 9999) ∧ ∃ x : ExtW W, wr = x.w) (fun i _ => R.owed.length - (intOf i).toNat)
    case atStart => exact ⟨0, Nat.zero_le _, rfl, fun t _ h => by omega, x1, rfl⟩
    case round =>
      obtain ⟨k, hk, rfl, ha, x, rfl⟩ := hrel
      have HA := Lib.hid ha
      clear ha
      by_cases hlt : k < R.owed.length
      · have hlt' : (k : Int) < (R.owed.length : Int) := by omega
        obtain ⟨b, o, rfl, hc0⟩ := HQ.out.at k hlt
        have k0 := ExtW.cell (HE.out.cell hc0)
        obtain ⟨u, hu⟩ : ∃ u, u = R.owed[k] := ⟨_, rfl⟩
        rw [← hu] at k0
        have HU := Lib.hid hu
        obtain ⟨g2, hg2⟩ : ∃ g, g = winB u 0 9999 := ⟨_, rfl⟩
        have hwu := fun x : ExtW W => HWI.out u 0 9999 x
        rw [← hg2] at hwu
        have HWU := Lib.hid hwu
        have HG2 := Lib.hid hg2
        clear hc0 hu hg2 hwu
        cases g2 with
        | false =>
          have HF := Lib.hid (show chkR R = 100 from chkR_f fun h => by
            have h1 := h.ow R.owed[k] (List.getElem_mem _)
            rw [← HU.out] at h1
            have := HG2.out
            rw [winB_t h1.1 h1.2] at this
            cases this)
          go_wp2_with (go_at_call 25; refine (HWU.out _).mono ?_; rintro e _ ⟨rfl, x2, rfl, -⟩)
          go_ret
          exact RetE.fin (HE.out.trans x2.h) (by rw [HF.out]; rfl)
        | true =>
          go_wp2_with (go_at_call 25; refine (HWU.out _).mono ?_; rintro e _ ⟨rfl, x2, rfl, -⟩)
          exact ⟨⟨k + 1, by omega, by simp, fun t ht htk => by
            by_cases e : t < k
            · exact HA.out t ht e
            · obtain rfl : t = k := by omega
              have := winB_iff.1 HG2.out.symm
              rw [← HU.out]; exact this, x2, rfl⟩, by simp [intOf]; omega⟩
      · obtain rfl : k = R.owed.length := by omega
        have hge : ¬((R.owed.length : Int) < (R.owed.length : Int)) := by omega
        go_wp2
        go_loopw [4] (fun i wr => ∃ k : Nat, k ≤ R.sides.length ∧ i = .int .i64 k ∧ (∀ t (h : t < R.sides.length), t < k → SideOK R.owed.length R.sides[t]) ∧ ∃ x : ExtW W, wr = x.w) (fun i _ => R.sides.length - (intOf i).toNat)
        case atStart => exact ⟨0, Nat.zero_le _, rfl, fun t _ h => by omega, x, rfl⟩
        case round =>
          obtain ⟨k, hk, rfl, hb, x2, rfl⟩ := hrel
          have HB := Lib.hid hb
          clear hb
          by_cases hlt2 : k < R.sides.length
          · have hlt' : (k : Int) < (R.sides.length : Int) := by omega
            obtain ⟨b, o, qs, cs, rfl, hc0, hc1, hc2⟩ := HP.out k hlt2
            have k0 := ExtW.cell (HE.out.cell hc0)
            have k1 := ExtW.cell (HE.out.cell hc1)
            have HM := Lib.hid (HPS.out R.sides[k] (List.getElem_mem _))
            have HC2 := Lib.hid hc2
            obtain ⟨s, hs⟩ : ∃ s, s = R.sides[k] := ⟨_, rfl⟩
            rw [← hs] at k0 k1 HC2 HM
            have HS := Lib.hid hs
            obtain ⟨g2, hg2⟩ : ∃ g, g = bP (SideOK R.owed.length s) := ⟨_, rfl⟩
            have HIS := Lib.hid (fun z : ExtW W => ExtW.call (x := z) (v := .bool g2) (by rw [hg2]; exact rIsSide10 R s _ qs cs z.w (HV.out _ (HE.out.trans z.h)) (HC2.out.ext (HE.out.trans z.h)) hl HM.out))
            have HG2 := Lib.hid hg2
            obtain ⟨ps, hps⟩ : ∃ x, x = s.plays := ⟨_, rfl⟩
            rw [← hps] at k0 HIS
            clear hc0 hc1 hc2 hs hg2 hps
            go_upto_region 11 with (fail)
            cases g2 with
            | false =>
              have HF := Lib.hid (show chkR R = 100 from chkR_f fun h => by
                have h1 := h.sd R.sides[k] (List.getElem_mem _)
                rw [← HS.out] at h1
                have := HG2.out
                rw [bP_t h1] at this
                cases this)
              refine wp_region_extW (by kernel_rfl) (by kernel_rfl) ?_
              repeat (go_big_quiet_step ((go_at_call 26; exact HIS.out _)))
              refine wpQuiet_nil ?_
              rintro _ ⟨z2, rfl⟩
              go_wp2
              go_ret
              exact RetE.fin (HE.out.trans z2.h) (by rw [HF.out]; rfl)
            | true =>
              refine wp_region_extW (by kernel_rfl) (by kernel_rfl) ?_
              repeat (go_big_quiet_step ((go_at_call 26; exact HIS.out _)))
              refine wpQuiet_nil ?_
              rintro _ ⟨z2, rfl⟩
              go_wp2
              exact ⟨⟨k + 1, by omega, by simp, fun t ht htk => by
                by_cases e : t < k
                · exact HB.out t ht e
                · obtain rfl : t = k := by omega
                  rw [← HS.out]; exact bP_iff.1 HG2.out.symm, z2, rfl⟩, by simp [intOf]; omega⟩
          · obtain rfl : k = R.sides.length := by omega
            have hge2 : ¬((R.sides.length : Int) < (R.sides.length : Int)) := by omega
            have HF := Lib.hid (show chkR R = 0 from chkR_t ⟨by rw [← HPL.out]; exact winB_iff.1 HG1.out.symm, HNN.out.1, HNN.out.2, fun y hy => by
                obtain ⟨t, ht, rfl⟩ := List.mem_iff_getElem.1 hy
                exact HA.out t ht ht, fun y hy => by
                obtain ⟨t, ht, rfl⟩ := List.mem_iff_getElem.1 hy
                exact HB.out t ht ht⟩)
            go_wp2
            go_ret
            exact RetE.fin (HE.out.trans x2.h) (by rw [HF.out]; rfl)

set_option maxRecDepth 20000 in
set_option maxHeartbeats 1600000 in
theorem rPlays10 (R : Ry) (v : Value) (w : World) (hv : RyV w v R) (hR : RyOK R) :
    Calls Try.prog 13 #[v] w (RetE (.int .i64 (playsR R)) w) := by
  obtain ⟨p, c, q, d, rfl, hp, hq⟩ := hv
  have HP := Lib.hid hp
  have HR := Lib.hid hR
  have hns := hR.ns
  clear hp hq hR
  go_enter Try.func13, Try.ntmps13
  go_upto_region 1 with (fail)
  obtain ⟨s0, hs0⟩ : ∃ s0, s0 = w.heap.size := ⟨_, rfl⟩
  obtain ⟨W, hW⟩ : ∃ W, W = w.alloc (.cells #[.int .i64 R.pool, .slice p R.sides.length c, .slice q R.owed.length d] 28) := ⟨_, rfl⟩
  have m0 : W.heap[s0]? = some (.cells #[.int .i64 R.pool, .slice p R.sides.length c, .slice q R.owed.length d] 28) := by rw [hs0, hW]; exact heap_new _ _
  have hE : Ext w W := by rw [hW]; exact Ext.alloc (Ext.refl _) _
  rw [← hs0, ← hW]
  have a1 : W.cell? ⟨s0, 1, none⟩ = some (.slice p R.sides.length c) := cell_of_heap m0 1
  have HE := Lib.hid hE
  clear hW m0 hE hs0
  go_wp2
  go_loopw [3, 4] (fun a i wr => ∃ k : Nat, k ≤ R.sides.length ∧ a = .int .i64 (((R.sides.take k).map fun s => s.plays).sum) ∧ i = .int .i64 k ∧ wr = W) (fun _ i _ => R.sides.length - (intOf i).toNat)
  case atStart => exact ⟨0, Nat.zero_le _, rfl, rfl, rfl⟩
  case round =>
    obtain ⟨k, hk, rfl, rfl, rfl⟩ := hrel
    obtain ⟨sm, hsm⟩ : ∃ sm, sm = ((R.sides.take k).map fun s => s.plays).sum := ⟨_, rfl⟩
    have hb := plays_bd HR.out k hk
    rw [← hsm] at hb ⊢
    have HSM := Lib.hid hsm
    clear hsm
    by_cases hlt : k < R.sides.length
    · have hlt' : (k : Int) < (R.sides.length : Int) := by omega
      obtain ⟨b, o, qs, cs, rfl, hc0, -, -⟩ := HP.out k hlt
      have k0 := HE.out.cell hc0
      have h1 := (HR.out.sd R.sides[k] (List.getElem_mem _)).pl
      have htk := take_snoc hlt
      obtain ⟨s, hs⟩ : ∃ s, s = R.sides[k] := ⟨_, rfl⟩
      rw [← hs] at k0 h1 htk
      obtain ⟨u, hu⟩ : ∃ u, u = s.plays := ⟨_, rfl⟩
      rw [← hu] at k0 h1
      have HTK := Lib.hid htk
      have HU := Lib.hid hu
      have hw1 : IntKind.i64.wrap (sm + u) = sm + u := IntWalk.i64_in _ (by omega)
      clear hc0 htk hs hu
      go_wp2
      exact ⟨⟨k + 1, by omega, by rw [HTK.out, List.map_append, List.sum_append, ← HSM.out]; simp [HU.out], by simp, trivial⟩, by simp [intOf]; omega⟩
    · obtain rfl : k = R.sides.length := by omega
      have hge : ¬((R.sides.length : Int) < (R.sides.length : Int)) := by omega
      rw [List.take_length] at HSM
      go_wp2
      go_ret
      exact RetE.fin HE.out (by rw [show playsR R = sm from HSM.out.symm]; rfl)

def farR (R : Ry) : Bool := decide (20 < R.sides.length) || decide (40 < R.owed.length) || R.sides.any fun s => decide (40 < s.parts.length)
theorem farR_f {R : Ry} (h : farR R = false) : R.sides.length ≤ 20 ∧ R.owed.length ≤ 40 ∧ ∀ s ∈ R.sides, s.parts.length ≤ 40 := by
  simp only [farR, Bool.or_eq_false_iff, decide_eq_false_iff_not] at h
  refine ⟨by omega, by omega, fun s hs => ?_⟩
  have := h.2
  rw [Bool.eq_false_iff] at this
  refine Nat.not_lt.1 fun hlt => this (List.any_eq_true.2 ⟨s, hs, by simpa using hlt⟩)

set_option maxRecDepth 20000 in
set_option maxHeartbeats 1600000 in
theorem Far10 (R : Ry) (v : Value) (w : World) (hv : RyV w v R) : Calls Try.prog 7 #[v] w (RetE (.bool (farR R)) w) := by
  obtain ⟨p, c, q, d, rfl, hp, hq⟩ := hv
  have HP := Lib.hid hp
  clear hp hq
  go_enter Try.func7, Try.ntmps7
  go_upto_region 1 with (fail)
  obtain ⟨s0, hs0⟩ : ∃ s0, s0 = w.heap.size := ⟨_, rfl⟩
  obtain ⟨W, hW⟩ : ∃ W, W = w.alloc (.cells #[.int .i64 R.pool, .slice p R.sides.length c, .slice q R.owed.length d] 28) := ⟨_, rfl⟩
  have m0 : W.heap[s0]? = some (.cells #[.int .i64 R.pool, .slice p R.sides.length c, .slice q R.owed.length d] 28) := by rw [hs0, hW]; exact heap_new _ _
  have hE : Ext w W := by rw [hW]; exact Ext.alloc (Ext.refl _) _
  rw [← hs0, ← hW]
  have a1 : W.cell? ⟨s0, 1, none⟩ = some (.slice p R.sides.length c) := cell_of_heap m0 1
  have a2 : W.cell? ⟨s0, 2, none⟩ = some (.slice q R.owed.length d) := cell_of_heap m0 2
  have HE := Lib.hid hE
  clear hW m0 hE hs0
  by_cases h1 : (20 : Int) < (R.sides.length : Int)
  · have HF := Lib.hid (show farR R = true from by unfold farR; rw [decide_eq_true (by omega)]; rfl)
    go_wp2
    go_ret
    exact RetE.fin HE.out (by rw [HF.out]; rfl)
  by_cases h2 : (40 : Int) < (R.owed.length : Int)
  · have HF := Lib.hid (show farR R = true from by unfold farR; rw [decide_eq_true (show 40 < R.owed.length by omega)]; simp)
    go_wp2
    go_ret
    exact RetE.fin HE.out (by rw [HF.out]; rfl)
  go_wp2
  go_loopw [3] (fun i wr => ∃ k : Nat, k ≤ R.sides.length ∧ i = .int .i64 k ∧ (∀ t (h : t < R.sides.length), t < k → R.sides[t].parts.length ≤ 40) ∧ wr = W) (fun i _ => R.sides.length - (intOf i).toNat)
  case atStart => exact ⟨0, Nat.zero_le _, rfl, fun t _ h => by omega, rfl⟩
  case round =>
    obtain ⟨k, hk, rfl, ha, rfl⟩ := hrel
    have HA := Lib.hid ha
    clear ha
    by_cases hlt : k < R.sides.length
    · have hlt' : (k : Int) < (R.sides.length : Int) := by omega
      obtain ⟨b, o, qs, cs, rfl, -, hc1, -⟩ := HP.out k hlt
      have k1 := HE.out.cell hc1
      have hmem := List.getElem_mem hlt
      obtain ⟨s, hs⟩ : ∃ s, s = R.sides[k] := ⟨_, rfl⟩
      rw [← hs] at k1 hmem
      have HS := Lib.hid hs
      have HMEM := Lib.hid hmem
      obtain ⟨n, hn⟩ : ∃ n, n = s.parts.length := ⟨_, rfl⟩
      rw [← hn] at k1
      have HN := Lib.hid hn
      clear hc1 hs hn hmem
      by_cases h4 : (40 : Int) < (n : Int)
      · have HF := Lib.hid (show farR R = true from by
          unfold farR
          have : (R.sides.any fun s => decide (40 < s.parts.length)) = true := List.any_eq_true.2 ⟨s, HMEM.out, by have := HN.out; simp; omega⟩
          rw [this]; simp)
        go_wp2
        go_ret
        exact RetE.fin HE.out (by rw [HF.out]; rfl)
      · go_wp2
        exact ⟨⟨k + 1, by omega, by simp, fun t ht htk => by
          by_cases e : t < k
          · exact HA.out t ht e
          · obtain rfl : t = k := by omega
            rw [← HS.out, ← HN.out]; omega, trivial⟩, by simp [intOf]; omega⟩
    · obtain rfl : k = R.sides.length := by omega
      have hge : ¬((R.sides.length : Int) < (R.sides.length : Int)) := by omega
      have HF := Lib.hid (show farR R = false from by
        unfold farR
        rw [decide_eq_false (by omega), decide_eq_false (by omega), Bool.false_or, Bool.false_or, Bool.eq_false_iff]
        intro h
        obtain ⟨y, hy, hy2⟩ := List.any_eq_true.1 h
        obtain ⟨t, ht, rfl⟩ := List.mem_iff_getElem.1 hy
        have := HA.out t ht ht
        simp at hy2
        omega)
      go_wp2
      go_ret
      exact RetE.fin HE.out (by rw [HF.out]; rfl)
end Go.Proofs.Ytppncdbhebgcaaa
