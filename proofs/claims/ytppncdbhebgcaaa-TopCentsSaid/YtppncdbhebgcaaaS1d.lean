
/- TopCents: the walks of the program's Check of a valid royal. -/
import Derived.Test.YtppncdbhebgcaaaS1c
namespace Go.Proofs.Ytppncdbhebgcaaa
open Go.RowKit

theorem within10 (n lo hi : Int) (w : World) : Calls Try.prog 59 #[.int .i64 n, .int .i64 lo, .int .i64 hi] w (RetE (.bool (winB n lo hi)) w) := by
  by_cases h1 : lo ≤ n
  · by_cases h2 : n ≤ hi
    · rw [winB_t h1 h2]
      go_enter Try.func59, Try.ntmps59
      go_wp2
      go_ret
      exact RetE.fin (Ext.refl _) rfl
    · rw [winB_r h2]
      go_enter Try.func59, Try.ntmps59
      go_wp2
      go_ret
      exact RetE.fin (Ext.refl _) rfl
  · rw [winB_l h1]
    go_enter Try.func59, Try.ntmps59
    go_wp2
    go_ret
    exact RetE.fin (Ext.refl _) rfl

/-- the writer before -/
def lastW (l : List (Int × Int)) : Nat → Int
  | 0 => -1
  | k + 1 => (l.getD k (0, 0)).1
theorem last_lt {n : Nat} {l : List (Int × Int)} {k : Nat} (h : PartOK n l k) : lastW l k < (l.getD k (0, 0)).1 := by
  cases k with
  | zero => have := h.lo; show (-1 : Int) < _; omega
  | succ k => rcases h.up with h' | h'
              · omega
              · exact h'

set_option maxRecDepth 20000 in
set_option maxHeartbeats 1600000 in
theorem shared10 (n : Nat) (s : Sd) (q : Option Addr) (c : Nat) (w : World) (hq : PairsAt w q s.parts) (hs : SideOK n s) (hm : s.parts.length ≤ 1000) :
    Calls Try.prog 60 #[.slice q s.parts.length c, .int .i64 n] w (RetE (.bool true) w) := by
  have HQ := Lib.hid hq
  have HS := Lib.hid hs
  clear hq hs
  go_enter Try.func60, Try.ntmps60
  obtain ⟨x0, hx0⟩ := ExtW.of (Ext.refl w)
  conv => arg 5; rw [hx0]
  have HX := Lib.hid hx0
  clear hx0
  go_wp2
  go_loopw [5, 6, 11] (fun a b i wr => ∃ k : Nat, k ≤ s.parts.length ∧ a = .int .i64 (pctS (s.parts.take k)) ∧ b = .int .i64 (lastW s.parts k) ∧ i = .int .i64 k ∧ ∃ x : ExtW w, wr = x.w) (fun _ _ i _ => s.parts.length - (intOf i).toNat)
  case atStart => exact ⟨0, Nat.zero_le _, rfl, rfl, rfl, x0, rfl⟩
  case round =>
    obtain ⟨k, hk, rfl, rfl, rfl, x, rfl⟩ := hrel
    obtain ⟨sm, hsm⟩ : ∃ sm, sm = pctS (s.parts.take k) := ⟨_, rfl⟩
    have hsb := pct_bd k hk (fun t ht => HS.out.pa t (by omega))
    rw [← hsm] at hsb ⊢
    have HSM := Lib.hid hsm
    clear hsm
    by_cases hlt : k < s.parts.length
    · have hlt' : (k : Int) < (s.parts.length : Int) := by omega
      obtain ⟨b, o, rfl, hc0, hc1⟩ := HQ.out k hlt
      have k0 := x.h.cell hc0
      have k1 := x.h.cell hc1
      have hpk := HS.out.pa k hlt
      have hll := last_lt hpk
      obtain ⟨-, h1, -, h2, h3⟩ := hpk
      have hnx : lastW s.parts (k + 1) = (s.parts.getD k (0, 0)).1 := rfl
      rw [getP_at1 hlt] at h1 h2 h3 hll hnx
      have HPS := Lib.hid (pct_snoc hlt)
      obtain ⟨lw, hlw⟩ : ∃ x, x = lastW s.parts k := ⟨_, rfl⟩
      rw [← hlw] at hll ⊢
      obtain ⟨u, hu⟩ : ∃ u, u = s.parts[k].1 := ⟨_, rfl⟩
      obtain ⟨t, ht⟩ : ∃ t, t = s.parts[k].2 := ⟨_, rfl⟩
      rw [← hu] at k0 h1 hll hnx
      rw [← ht] at k1 h2 h3
      have HNX := Lib.hid hnx
      have HT := Lib.hid ht
      have hws : IntKind.i64.wrap (sm + t) = sm + t := IntWalk.i64_in _ (by omega)
      have hg1 : ¬u ≤ lw := by omega
      have hg2 : ¬(n : Int) ≤ u := by omega
      have hwt := within10 t 1 100
      rw [winB_t h2 h3] at hwt
      clear hc0 hc1 hlw hu ht hnx h1 h2 h3 hll
      go_upto_region 5 with (fail)
      obtain ⟨s2, hs2⟩ : ∃ s2, s2 = x.w.heap.size := ⟨_, rfl⟩
      obtain ⟨W2, hW2⟩ : ∃ W2, W2 = x.w.alloc (.cells #[.int .i64 u, .int .i64 t] 104) := ⟨_, rfl⟩
      have m2 : W2.heap[s2]? = some (.cells #[.int .i64 u, .int .i64 t] 104) := by rw [hs2, hW2]; exact heap_new _ _
      have hE2 : Ext w W2 := by rw [hW2]; exact x.h.alloc _
      rw [← hs2, ← hW2]
      have c0 := ExtW.cell (v := .int .i64 u) (cell_of_heap m2 0)
      have c1 := ExtW.cell (v := .int .i64 t) (cell_of_heap m2 1)
      have HC := Lib.hid (fun z : ExtW W2 => ExtW.call (x := z) (hwt z.w))
      have HE2 := Lib.hid hE2
      obtain ⟨z0, hz0⟩ := ExtW.of (Ext.refl W2)
      clear hs2 hW2 m2 hE2 k0 k1 hwt
      conv => arg 5; rw [hz0]
      clear hz0
      go_upto_region 7 with (go_at_call 59; refine (HC.out _).mono ?_; rintro e _ ⟨rfl, z1, rfl⟩)
      refine wp_region_extW (by kernel_rfl) (by kernel_rfl) ?_
      repeat (go_big_quiet_step (fail))
      refine wpQuiet_nil ?_
      rintro _ ⟨z2, rfl⟩
      go_wp2
      exact ⟨⟨k + 1, by omega, by rw [HPS.out, ← HT.out, ← HSM.out], by rw [HNX.out], by simp, ⟨z2.w, HE2.out.trans z2.h⟩, rfl⟩, by simp [intOf]; omega⟩
    · obtain rfl : k = s.parts.length := by omega
      have hge : ¬((s.parts.length : Int) < (s.parts.length : Int)) := by omega
      rw [List.take_length, HS.out.sm] at HSM
      have h100 := HSM.out
      subst h100
      go_wp2
      go_ret
      exact RetE.fin x.h rfl

set_option maxRecDepth 20000 in
set_option maxHeartbeats 3200000 in
theorem Check10 (R : Ry) (v : Value) (w : World) (hv : RyV w v R) (hR : RyOK R) (hps : ∀ s ∈ R.sides, s.parts.length ≤ 1000) :
    Calls Try.prog 42 #[v] w (RetE (.int .i64 0) w) := by
  obtain ⟨p, c, q, d, rfl, hp, hq⟩ := hv
  have HP := Lib.hid hp
  have HQ := Lib.hid hq
  have HR := Lib.hid hR
  have HPS := Lib.hid hps
  have hnw := hR.nw
  have hns := hR.ns
  have hpo := hR.pool
  obtain ⟨pl, hpl⟩ : ∃ x, x = R.pool := ⟨_, rfl⟩
  rw [← hpl] at hpo ⊢
  clear hp hq hR hps hpl
  go_enter Try.func42, Try.ntmps42
  go_upto_region 1 with (fail)
  obtain ⟨s0, hs0⟩ : ∃ s0, s0 = w.heap.size := ⟨_, rfl⟩
  obtain ⟨W, hW⟩ : ∃ W, W = w.alloc (.cells #[.int .i64 pl, .slice p R.sides.length c, .slice q R.owed.length d] 28) := ⟨_, rfl⟩
  have m0 : W.heap[s0]? = some (.cells #[.int .i64 pl, .slice p R.sides.length c, .slice q R.owed.length d] 28) := by rw [hs0, hW]; exact heap_new _ _
  have hE : Ext w W := by rw [hW]; exact Ext.alloc (Ext.refl _) _
  rw [← hs0, ← hW]
  have a0 := ExtW.cell (v := .int .i64 pl) (cell_of_heap m0 0)
  have a1 := ExtW.cell (v := .slice p R.sides.length c) (cell_of_heap m0 1)
  have a2 := ExtW.cell (v := .slice q R.owed.length d) (cell_of_heap m0 2)
  have HE := Lib.hid hE
  have HWI := Lib.hid (fun n lo hi (h1 : lo ≤ n) (h2 : n ≤ hi) (x : ExtW W) => ExtW.callX (x := x) (v := .bool true) (by rw [← winB_t h1 h2]; exact within10 n lo hi x.w))
  have HWP := Lib.hid (fun x => HWI.out pl 0 9999 hpo.1 hpo.2 x)
  obtain ⟨x0, hx0⟩ := ExtW.of (Ext.refl W)
  clear hW m0 hE hs0 hpo
  conv => arg 5; rw [hx0]
  clear hx0
  have hd1 : (R.owed.length : Int) ≤ 6 := by omega
  have hd2 : (R.sides.length : Int) ≤ 6 := by omega
  go_upto_region 2 with (go_at_call 59; refine (HWP.out _).mono ?_; rintro e _ ⟨rfl, x1, rfl, -⟩)
  go_wp2
  go_loopw [3, 26] (fun a i wr => ∃ k : Nat, k ≤ R.owed.length ∧ a = .bool true ∧ i = .int .i64 k ∧ ∃ x : ExtW W, wr = x.w) (fun _ i _ => R.owed.length - (intOf i).toNat)
  case atStart => exact ⟨0, Nat.zero_le _, rfl, rfl, x1, rfl⟩
  case round =>
    obtain ⟨k, hk, rfl, rfl, x, rfl⟩ := hrel
    by_cases hlt : k < R.owed.length
    · have hlt' : (k : Int) < (R.owed.length : Int) := by omega
      obtain ⟨b, o, rfl, hc0⟩ := HQ.out.at k hlt
      have k0 := ExtW.cell (HE.out.cell hc0)
      have ho := HR.out.ow R.owed[k] (List.getElem_mem _)
      obtain ⟨u, hu⟩ : ∃ u, u = R.owed[k] := ⟨_, rfl⟩
      rw [← hu] at k0 ho
      have HWU := Lib.hid (fun x => HWI.out u 0 9999 ho.1 ho.2 x)
      clear hc0 hu ho
      go_wp2_with (go_at_call 59; refine (HWU.out _).mono ?_; rintro e _ ⟨rfl, x2, rfl, -⟩)
      exact ⟨⟨k + 1, by omega, rfl, by simp, x2, rfl⟩, by simp [intOf]; omega⟩
    · obtain rfl : k = R.owed.length := by omega
      have hge : ¬((R.owed.length : Int) < (R.owed.length : Int)) := by omega
      go_wp2
      go_loopw [3, 39] (fun a i wr => ∃ k : Nat, k ≤ R.sides.length ∧ a = .bool true ∧ i = .int .i64 k ∧ ∃ x : ExtW W, wr = x.w) (fun _ i _ => R.sides.length - (intOf i).toNat)
      case atStart => exact ⟨0, Nat.zero_le _, rfl, rfl, x, rfl⟩
      case round =>
        obtain ⟨k, hk, rfl, rfl, x2, rfl⟩ := hrel
        by_cases hlt2 : k < R.sides.length
        · have hlt' : (k : Int) < (R.sides.length : Int) := by omega
          obtain ⟨b, o, qs, cs, rfl, hc0, hc1, hc2⟩ := HP.out k hlt2
          have k0 := x2.h.cell (HE.out.cell hc0)
          have k1 := x2.h.cell (HE.out.cell hc1)
          have HM := Lib.hid (HPS.out R.sides[k] (List.getElem_mem _))
          have HS := Lib.hid (HR.out.sd R.sides[k] (List.getElem_mem _))
          have HC2 := Lib.hid hc2
          obtain ⟨s, hs⟩ : ∃ s, s = R.sides[k] := ⟨_, rfl⟩
          rw [← hs] at k0 k1 HC2 HM HS
          have hpl := HS.out.pl
          have HSH := Lib.hid (fun y (h : Ext w y) => shared10 R.owed.length s qs cs y (HC2.out.ext h) HS.out HM.out)
          obtain ⟨ps, hps⟩ : ∃ x, x = s.plays := ⟨_, rfl⟩
          rw [← hps] at k0 hpl
          clear hc0 hc1 hc2 hs hps
          go_upto_region 10 with (fail)
          obtain ⟨s2, hs2⟩ : ∃ s2, s2 = x2.w.heap.size := ⟨_, rfl⟩
          obtain ⟨W2, hW2⟩ : ∃ W2, W2 = x2.w.alloc (.cells #[.int .i64 ps, .slice qs s.parts.length cs] 72) := ⟨_, rfl⟩
          have m2 : W2.heap[s2]? = some (.cells #[.int .i64 ps, .slice qs s.parts.length cs] 72) := by rw [hs2, hW2]; exact heap_new _ _
          have hE2 : Ext W W2 := by rw [hW2]; exact x2.h.alloc _
          rw [← hs2, ← hW2]
          have c0 := ExtW.cell (v := .int .i64 ps) (cell_of_heap m2 0)
          have c1 := ExtW.cell (v := .slice qs s.parts.length cs) (cell_of_heap m2 1)
          have c2 : ∀ z : ExtW W2, z.w.cell? ⟨s0, 2, none⟩ = some (.slice q R.owed.length d) := fun z => a2 ⟨z.w, hE2.trans z.h⟩
          have HSX := Lib.hid (fun z : ExtW W2 => ExtW.callX (x := z) (HSH.out z.w (HE.out.trans (hE2.trans z.h))))
          have HWX := Lib.hid (fun z : ExtW W2 => ExtW.callX (x := z) (v := .bool true) (by rw [← winB_t hpl.1 hpl.2]; exact within10 ps 0 9999 z.w))
          have HE2 := Lib.hid hE2
          have HA := Lib.hid (⟨a0, a1, a2⟩ : _ ∧ _ ∧ _)
          obtain ⟨z0, hz0⟩ := ExtW.of (Ext.refl W2)
          clear hs2 hW2 m2 hE2 k0 k1 hpl a0 a1 a2
          conv => arg 5; rw [hz0]
          clear hz0
          go_wp2_with (first
            | (go_at_call 59; refine (HWX.out _).mono ?_; rintro e _ ⟨rfl, z1, rfl, -⟩)
            | (go_at_call 60; refine (HSX.out _).mono ?_; rintro e _ ⟨rfl, z2, rfl, -⟩))
          exact ⟨⟨k + 1, by omega, rfl, by simp, ⟨z2.w, HE2.out.trans z2.h⟩, rfl⟩, by simp [intOf]; omega⟩
        · obtain rfl : k = R.sides.length := by omega
          have hge2 : ¬((R.sides.length : Int) < (R.sides.length : Int)) := by omega
          go_wp2
          go_ret
          exact RetE.fin (HE.out.trans x2.h) rfl
end Go.Proofs.Ytppncdbhebgcaaa
