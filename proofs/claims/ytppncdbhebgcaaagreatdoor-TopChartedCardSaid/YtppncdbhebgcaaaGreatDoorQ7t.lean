
/- The walks of the reference's functions on a truth. -/
import Derived.Test.YtppncdbhebgcaaaGreatDoorXI
import Derived.Test.YtppncdbhebgcaaaGreatDoorQ7n
namespace Go.Proofs.YtppncdbhebgcaaaGreatDoor
open Go.RowKit

/-- What a meter has counted, by a start and the plays of each week. -/
def dOf (st : Int) (pl : List Int) (i : Nat) : Int := st + (pl.take i).sum
theorem dOf_zero (st : Int) (pl : List Int) : dOf st pl 0 = st := by unfold dOf; simp
theorem dOf_succ {st : Int} {pl : List Int} {i : Nat} (h : i < pl.length) : dOf st pl (i + 1) = dOf st pl i + pl[i] := by
  unfold dOf
  rw [List.take_succ_eq_append_getElem h, List.sum_append]
  simp
  omega
structure PlayOK (st : Int) (pl : List Int) : Prop where
  st0 : 0 ≤ st
  st1 : st ≤ 99
  len : pl.length ≤ 5
  play : ∀ x ∈ pl, 0 ≤ x ∧ x ≤ 300
theorem dOf_mono {st : Int} {pl : List Int} (h : PlayOK st pl) : ∀ {a b : Nat}, a ≤ b → b ≤ pl.length → 0 ≤ dOf st pl b - dOf st pl a ∧ dOf st pl b - dOf st pl a ≤ 300 * (b - a : Nat) := by
  intro a b hab hb
  obtain ⟨k, rfl⟩ : ∃ k, b = a + k := ⟨b - a, by omega⟩
  induction k with
  | zero => simp
  | succ k ih =>
    have h1 := ih (by omega) (by omega)
    have h2 := dOf_succ (st := st) (show a + k < pl.length by omega)
    have h3 := h.play _ (List.getElem_mem (show a + k < pl.length by omega))
    rw [show a + (k + 1) = a + k + 1 from rfl, h2]
    omega
theorem dOf_small {st : Int} {pl : List Int} (h : PlayOK st pl) {a b : Nat} (hab : a ≤ b) (hb : b ≤ pl.length) : 0 ≤ dOf st pl b - dOf st pl a ∧ dOf st pl b - dOf st pl a ≤ 1500 := by
  have h1 := dOf_mono h hab hb
  have h2 := h.len
  omega

def TrV (w : World) (v : Value) (st : Int) (pl : List Int) : Prop := ∃ p c, v = .agg #[.int .i64 st, .slice p pl.length c] ∧ IntsAt w p pl
theorem TrV.ext {w w' : World} {v : Value} {st : Int} {pl : List Int} (h : TrV w v st pl) (hE : Ext w w') : TrV w' v st pl := by
  obtain ⟨p, c, e, h1⟩ := h
  exact ⟨p, c, e, h1.ext hE⟩

set_option maxRecDepth 20000 in
set_option maxHeartbeats 800000 in
theorem rSum04 (st : Int) (pl : List Int) (h : PlayOK st pl) (f e : Nat) (hfe : f ≤ e) (he : e ≤ pl.length) (v : Value) (w : World) (hv : TrV w v st pl) :
    Calls Tryz.prog 121 #[v, .int .i64 f, .int .i64 e] w (RetE (.int .i64 (dOf st pl e - dOf st pl f)) w) := by
  obtain ⟨p, c, rfl, hp⟩ := hv
  have HPO := Lib.hid h
  have hl5 := h.len
  clear h
  go_enter Tryz.func121, Tryz.ntmps121
  go_upto_region 1 with (fail)
  obtain ⟨s0, hs0⟩ : ∃ s0, s0 = w.heap.size := ⟨_, rfl⟩
  generalize hW : World.alloc _ _ = W
  have m0 : W.heap[s0]? = some (.cells #[.int .i64 st, .slice p pl.length c] 177) := by rw [hs0, ← hW]; exact heap_new _ _
  have hE : Ext w W := by rw [← hW]; exact (by repeat (first | exact Ext.refl _ | assumption | refine Ext.drewN ?_ _ | refine Ext.drew ?_ | refine Ext.alloc ?_ _))
  rw [← hs0]
  have c1 : W.cell? ⟨s0, 1, none⟩ = some (.slice p pl.length c) := cell_of_heap m0 1
  have HE := Lib.hid hE
  have HP := Lib.hid (hp.ext hE)
  clear hW m0 hE hs0 hp
  go_upto_region 3 with (fail)
  go_wp2
  go_loop [7, 8] (fun n i => ∃ k : Nat, f ≤ k ∧ k ≤ e ∧ n = .int .i64 (dOf st pl k - dOf st pl f) ∧ i = .int .i64 k) (fun _ i => e - (intOf i).toNat)
  case atStart => exact ⟨f, Nat.le_refl _, hfe, by rw [Int.sub_self], rfl⟩
  case round =>
    obtain ⟨k, hfk, hke, rfl, rfl⟩ := hrel
    by_cases hlt : k < e
    · have hlt' : (k : Int) < (e : Int) := by omega
      have hlp : k < pl.length := by omega
      have hlp' : (k : Int) < (pl.length : Int) := by omega
      obtain ⟨b, o, rfl, hc⟩ := HP.out.at k hlp
      have hsu := dOf_succ (st := st) hlp
      have h1 := dOf_small HPO.out hfk (by omega)
      have h2 := HPO.out.play _ (List.getElem_mem hlp)
      obtain ⟨x, hx⟩ : ∃ x, x = dOf st pl k - dOf st pl f := ⟨_, rfl⟩
      obtain ⟨y, hy⟩ : ∃ y, y = pl[k] := ⟨_, rfl⟩
      rw [← hy] at hc hsu h2
      rw [← hx] at h1
      have HSU := Lib.hid (show dOf st pl (k + 1) - dOf st pl f = x + y from by rw [hsu, hx]; omega)
      have z1 : IntKind.i64.wrap (x + y) = x + y := IntWalk.i64_in _ (by omega)
      rw [← hx]
      clear hsu hx hy h1 h2
      go_wp2
      go_round
      case rel => exact ⟨k + 1, by omega, by omega, by rw [HSU.out], by simp⟩
      case measure => simp [intOf]; omega
    · obtain rfl : k = e := by omega
      go_wp2
      go_ret
      exact RetE.fin HE.out rfl
theorem rSum04z (st : Int) (pl : List Int) (h : PlayOK st pl) (e : Nat) (he : e ≤ pl.length) (v : Value) (w : World) (hv : TrV w v st pl) :
    Calls Tryz.prog 121 #[v, .int .i64 0, .int .i64 e] w (RetE (.int .i64 (dOf st pl e - st)) w) := by
  have := rSum04 st pl h 0 e (Nat.zero_le _) he v w hv
  rw [dOf_zero] at this
  exact this

set_option maxRecDepth 20000 in
theorem rShown04 (st : Int) (pl : List Int) (h : PlayOK st pl) (a : Nat) (ha : a ≤ pl.length) (v : Value) (w : World) (hv : TrV w v st pl) :
    Calls Tryz.prog 172 #[v, .int .i64 a] w (RetE (.int .i64 (dOf st pl a % 100)) w) := by
  have HV := Lib.hid hv
  obtain ⟨p, c, rfl, hp⟩ := hv
  have h0 := h.st0
  have h1 := h.st1
  have h2 := dOf_small h (Nat.zero_le a) ha
  rw [dOf_zero] at h2
  have HS := Lib.hid (fun y (hy : Ext w y) => rSum04z st pl h a ha _ y (HV.out.ext hy))
  clear h hp
  obtain ⟨s, hs⟩ : ∃ s, s = dOf st pl a := ⟨_, rfl⟩
  rw [← hs] at h2 HS
  rw [← hs]
  have z1 : IntKind.i64.wrap (st + (s - st)) = s := by rw [show st + (s - st) = s by omega]; exact IntWalk.i64_in _ (by omega)
  have z2 : s.tmod 100 = s % 100 := Int.tmod_eq_emod_of_nonneg (by omega)
  have z3 : IntKind.i64.wrap (s % 100) = s % 100 := IntWalk.i64_in _ (by omega)
  clear hs
  go_enter Tryz.func172, Tryz.ntmps172
  go_upto_region 1 with (fail)
  obtain ⟨s0, hs0⟩ : ∃ s0, s0 = w.heap.size := ⟨_, rfl⟩
  generalize hW : World.alloc _ _ = W
  have m0 : W.heap[s0]? = some (.cells #[.int .i64 st, .slice p pl.length c] 177) := by rw [hs0, ← hW]; exact heap_new _ _
  have hE : Ext w W := by rw [← hW]; exact (by repeat (first | exact Ext.refl _ | assumption | refine Ext.drewN ?_ _ | refine Ext.drew ?_ | refine Ext.alloc ?_ _))
  rw [← hs0]
  have c0 := ExtW.cell (v := .int .i64 st) (cell_of_heap m0 0)
  have c1 := ExtW.cell (v := .slice p pl.length c) (cell_of_heap m0 1)
  have HE := Lib.hid hE
  have HSX := Lib.hid (fun x : ExtW W => ExtW.call (x := x) (HS.out x.w (hE.trans x.h)))
  obtain ⟨x0, hx0⟩ := ExtW.of (Ext.refl W)
  clear hW m0 hE hs0
  conv => arg 5; rw [hx0]
  clear hx0
  refine wp_region_extW (by kernel_rfl) (by kernel_rfl) ?_
  repeat (go_big_quiet_step ((go_at_call 121; exact HSX.out _)))
  refine wpQuiet_nil ?_
  rintro _ ⟨x2, rfl⟩
  go_wp2
  go_ret
  exact RetE.fin (HE.out.trans x2.h) rfl

set_option maxRecDepth 20000 in
theorem rIsRight04 (st : Int) (pl : List Int) (h : PlayOK st pl) (a : Nat) (z : Int) (ha : a ≤ pl.length) (v : Value) (w : World) (hv : TrV w v st pl) :
    Calls Tryz.prog 169 #[.agg #[.int .i64 (a : Int), .int .i64 z], v] w (RetE (.bool (decide (dOf st pl a % 100 = z))) w) := by
  have HV := Lib.hid hv
  obtain ⟨p, c, rfl, hp⟩ := hv
  have HS := Lib.hid (fun y (hy : Ext w y) => rShown04 st pl h a ha _ y (HV.out.ext hy))
  clear h hp
  obtain ⟨s, hs⟩ : ∃ s, s = dOf st pl a % 100 := ⟨_, rfl⟩
  rw [← hs] at HS
  rw [← hs]
  clear hs
  go_enter Tryz.func169, Tryz.ntmps169
  go_upto_region 1 with (fail)
  obtain ⟨s0, hs0⟩ : ∃ s0, s0 = w.heap.size := ⟨_, rfl⟩
  obtain ⟨W, hW⟩ : ∃ W, W = (w.alloc (.cells #[.int .i64 (a : Int), .int .i64 z] 108)).alloc (.cells #[.int .i64 st, .slice p pl.length c] 177) := ⟨_, rfl⟩
  have m0 : W.heap[s0]? = some (.cells #[.int .i64 (a : Int), .int .i64 z] 108) := by rw [hs0]; exact heap_at0 (by rw [hW]; exact (by repeat (first | exact Ext.refl _ | assumption | refine Ext.drewN ?_ _ | refine Ext.drew ?_ | refine Ext.alloc ?_ _)))
  have m1 : W.heap[s0 + 1]? = some (.cells #[.int .i64 st, .slice p pl.length c] 177) := by rw [hs0, hW]; exact heap_new2 _ _ _
  have hE : Ext w W := by rw [hW]; exact (by repeat (first | exact Ext.refl _ | assumption | refine Ext.drewN ?_ _ | refine Ext.drew ?_ | refine Ext.alloc ?_ _))
  rw [← hs0, ← hW]
  have c0 := ExtW.cell (v := .int .i64 (a : Int)) (cell_of_heap m0 0)
  have c1 := ExtW.cell (v := .int .i64 z) (cell_of_heap m0 1)
  have d0 := ExtW.cell (v := .int .i64 st) (cell_of_heap m1 0)
  have d1 := ExtW.cell (v := .slice p pl.length c) (cell_of_heap m1 1)
  have HE := Lib.hid hE
  have HSX := Lib.hid (fun x : ExtW W => ExtW.call (x := x) (HS.out x.w (hE.trans x.h)))
  obtain ⟨x0, hx0⟩ := ExtW.of (Ext.refl W)
  clear hW m0 m1 hE hs0
  conv => arg 5; rw [hx0]
  clear hx0
  refine wp_region_extW (by kernel_rfl) (by kernel_rfl) ?_
  repeat (go_big_quiet_step ((go_at_call 172; exact HSX.out _)))
  refine wpQuiet_nil ?_
  rintro _ ⟨x2, rfl⟩
  go_wp2
  go_ret
  exact RetE.fin (HE.out.trans x2.h) (by show Value.bool (s == z) = Value.bool (decide (s = z)); refine congrArg Value.bool ?_; by_cases e : s = z <;> simp [e])

def wrTo (M : Mt) (D : Nat → Int) (k : Nat) : Nat := (M.reads.take k).countP (fun r => decide (D r.1.toNat % 100 ≠ r.2))
theorem wrTo_succ {M : Mt} {D : Nat → Int} {k : Nat} (h : k < M.reads.length) : wrTo M D (k + 1) = wrTo M D k + (if D M.reads[k].1.toNat % 100 = M.reads[k].2 then 0 else 1) := by
  unfold wrTo
  rw [List.take_succ_eq_append_getElem h, List.countP_append]
  congr 1
  rw [List.countP_cons, List.countP_nil]
  by_cases e : D M.reads[k].1.toNat % 100 = M.reads[k].2 <;> simp [e]
theorem wrTo_all (M : Mt) (D : Nat → Int) : wrTo M D M.reads.length = Wd M D := by
  unfold wrTo Wd wIn
  rw [List.take_length]
  exact List.countP_congr fun r _ => by simp

set_option maxRecDepth 20000 in
set_option maxHeartbeats 800000 in
theorem rWrongs04 (M : Mt) (hM : ValidM M) (st : Int) (pl : List Int) (h : PlayOK st pl) (hl : pl.length = M.weeks.length) (u v : Value) (w : World) (hu : MtV w u M) (hv : TrV w v st pl) :
    Calls Tryz.prog 162 #[u, v] w (RetE (.int .i64 (Wd M (dOf st pl) : Nat)) w) := by
  have HVM := Lib.hid hM
  have HPO := Lib.hid h
  have HL := Lib.hid hl
  have hn7 := hM.nr
  have HV := Lib.hid hv
  obtain ⟨p, c, qq, d, rfl, hp, hq⟩ := hu
  obtain ⟨pp, pc, rfl, hpp⟩ := hv
  have HQ := Lib.hid hq
  clear hp hq hpp hM h hl
  go_enter Tryz.func162, Tryz.ntmps162
  go_upto_region 1 with (fail)
  obtain ⟨s0, hs0⟩ : ∃ s0, s0 = w.heap.size := ⟨_, rfl⟩
  obtain ⟨W, hW⟩ : ∃ W, W = (w.alloc (.cells #[.slice p M.weeks.length c, .slice qq M.reads.length d, .int .i64 M.wrong] 55)).alloc (.cells #[.int .i64 st, .slice pp pl.length pc] 177) := ⟨_, rfl⟩
  have m0 : W.heap[s0]? = some (.cells #[.slice p M.weeks.length c, .slice qq M.reads.length d, .int .i64 M.wrong] 55) := by rw [hs0]; exact heap_at0 (by rw [hW]; exact (by repeat (first | exact Ext.refl _ | assumption | refine Ext.drewN ?_ _ | refine Ext.drew ?_ | refine Ext.alloc ?_ _)))
  have m1 : W.heap[s0 + 1]? = some (.cells #[.int .i64 st, .slice pp pl.length pc] 177) := by rw [hs0, hW]; exact heap_new2 _ _ _
  have hE : Ext w W := by rw [hW]; exact (by repeat (first | exact Ext.refl _ | assumption | refine Ext.drewN ?_ _ | refine Ext.drew ?_ | refine Ext.alloc ?_ _))
  rw [← hs0, ← hW]
  have a1 := ExtW.cell (v := .slice qq M.reads.length d) (cell_of_heap m0 1)
  have d0 := ExtW.cell (v := .int .i64 st) (cell_of_heap m1 0)
  have d1 := ExtW.cell (v := .slice pp pl.length pc) (cell_of_heap m1 1)
  have HE := Lib.hid hE
  have HQW := Lib.hid (HQ.out.ext hE)
  obtain ⟨x0, hx0⟩ := ExtW.of (Ext.refl W)
  clear hW m0 m1 hE hs0
  conv => arg 5; rw [hx0]
  clear hx0
  go_upto_region 3 with (fail)
  go_wp2
  go_loopw [5, 6] (fun n i wr => ∃ k : Nat, k ≤ M.reads.length ∧ n = .int .i64 (wrTo M (dOf st pl) k : Nat) ∧ i = .int .i64 k ∧ ∃ x : ExtW W, wr = x.w) (fun _ i _ => M.reads.length - (intOf i).toNat)
  case atStart => exact ⟨0, Nat.zero_le _, rfl, rfl, x0, rfl⟩
  case round =>
    obtain ⟨k, hk, rfl, rfl, x, rfl⟩ := hrel
    have hwl : wrTo M (dOf st pl) k ≤ M.reads.length := Nat.le_trans List.countP_le_length (by rw [List.length_take]; exact Nat.min_le_right _ _)
    by_cases hlt : k < M.reads.length
    · have hlt' : (k : Int) < (M.reads.length : Int) := by omega
      have hrd := HVM.out.read _ (List.getElem_mem hlt)
      obtain ⟨b, o, rfl, hc0, hc1⟩ := HQW.out.at2 k hlt
      have hsu := wrTo_succ (D := dOf st pl) hlt
      obtain ⟨ra, hra⟩ : ∃ ra : Nat, M.reads[k].1 = ra := ⟨M.reads[k].1.toNat, by omega⟩
      obtain ⟨rb, hrb⟩ : ∃ rb, M.reads[k].2 = rb := ⟨_, rfl⟩
      rw [hra] at hc0 hrd hsu
      rw [hrb] at hc1 hsu
      rw [Int.toNat_natCast] at hsu
      have hri := fun x : ExtW W => ExtW.call (x := x) (rIsRight04 st pl HPO.out ra rb (by have := HL.out; omega) _ x.w (HV.out.ext (HE.out.trans x.h)))
      have k0 := ExtW.cell hc0
      have k1 := ExtW.cell hc1
      obtain ⟨n, hn⟩ : ∃ n, n = wrTo M (dOf st pl) k := ⟨_, rfl⟩
      rw [← hn] at hwl hsu
      rw [← hn]
      by_cases hr : dOf st pl ra % 100 = rb
      · rw [decide_eq_true hr] at hri
        rw [if_pos hr] at hsu
        have HRI := Lib.hid hri
        have HSU := Lib.hid hsu
        clear hri hsu hr hra hrb hrd hc0 hc1 hn
        go_upto_region 5 with (fail)
        refine wp_region_extW (by kernel_rfl) (by kernel_rfl) ?_
        repeat (go_big_quiet_step ((go_at_call 169; exact HRI.out _)))
        refine wpQuiet_nil ?_
        rintro _ ⟨x2, rfl⟩
        go_wp2
        go_roundw
        case rel => exact ⟨k + 1, by omega, by rw [HSU.out]; simp, by simp, x2, rfl⟩
        case measure => simp [intOf]; omega
      · rw [decide_eq_false hr] at hri
        rw [if_neg hr] at hsu
        have HRI := Lib.hid hri
        have HSU := Lib.hid hsu
        have z1 : IntKind.i64.wrap ((n : Int) + 1) = (n : Int) + 1 := IntWalk.i64_in _ (by omega)
        clear hri hsu hr hra hrb hrd hc0 hc1 hn
        go_upto_region 5 with (fail)
        refine wp_region_extW (by kernel_rfl) (by kernel_rfl) ?_
        repeat (go_big_quiet_step ((go_at_call 169; exact HRI.out _)))
        refine wpQuiet_nil ?_
        rintro _ ⟨x2, rfl⟩
        go_wp2
        go_roundw
        case rel => exact ⟨k + 1, by omega, by rw [HSU.out]; simp, by simp, x2, rfl⟩
        case measure => simp [intOf]; omega
    · obtain rfl : k = M.reads.length := by omega
      have HWA := Lib.hid (wrTo_all M (dOf st pl))
      go_wp2
      go_ret
      exact RetE.fin (HE.out.trans x.h) (by rw [← HWA.out]; rfl)

theorem truP_ok {M : Mt} (hM : ValidM M) {st : Int} {pl : List Int} (h0 : 0 ≤ st ∧ st ≤ 99) (hl : pl.length = M.weeks.length) (hp : ∀ i (h : i < pl.length), lowM M i ≤ pl[i] ∧ pl[i] ≤ highM M i) : PlayOK st pl :=
  ⟨h0.1, h0.2, by rw [hl]; exact hM.nw, fun x hx => by
    obtain ⟨i, hi, rfl⟩ := List.getElem_of_mem hx
    have h1 := hp i hi
    have h2 := week_span hM (i := i) (by omega)
    omega⟩
end Go.Proofs.YtppncdbhebgcaaaGreatDoor
