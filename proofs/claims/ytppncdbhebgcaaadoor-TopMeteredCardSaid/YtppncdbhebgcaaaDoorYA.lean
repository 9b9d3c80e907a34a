
/- Trays: the data, and the walks of the reference's IsSide, IsTime, presses, Check. Trays: the walks of the reference's presses and Check. The carriage of a tray: what it does at a position, and that it stands still in the end: plain law, without a program. Trays: the walks of isSide, isTime, Check (of a valid tray), last. Trays: a carriage in memory. Trays: the walk of mark. Trays: the walks of next and press of a carriage. Trays: the walks of press of a carriage. Trays: the walk of act of a carriage. Trays: the walk of act of a carriage. Presses sorted by their times: insertion sort. Presses copied. -/
import Derived.Test.YtppncdbhebgcaaaDoorXK
import Derived.Test.YtppncdbhebgcaaaDoorVA
import Derived.Test.YtppncdbhebgcaaaDoorCD
import Derived.Deep.AppendLies
namespace Go.Proofs.YtppncdbhebgcaaaDoor
open Go.RowKit

structure TrayD where
  recs : List (Int × Int)
  at_ : Int
  way : Int
  step : Int
  prs : List (Int × Int)
/-- a tray -/
def TyV (w : World) (v : Value) (T : TrayD) : Prop := ∃ p c q d, v = .agg #[.slice p T.recs.length c, .int .i64 T.at_, .int .i64 T.way, .int .i64 T.step, .slice q T.prs.length d] ∧ PairsAt w p T.recs ∧ PairsAt w q T.prs
theorem TyV.ext {w w' : World} {v : Value} {T : TrayD} (h : TyV w v T) (hE : Ext w w') : TyV w' v T := by
  obtain ⟨p, c, q, d, e, h1, h2⟩ := h
  exact ⟨p, c, q, d, e, h1.ext hE, h2.ext hE⟩
def headY (T : TrayD) : Bool := decide (1 ≤ T.recs.length) && (decide (T.recs.length ≤ 6) && (decide (0 ≤ T.at_) && (decide (T.at_ < T.recs.length) && ((decide (T.way = 1) || decide (T.way = -1)) && (decide (0 ≤ T.step) && decide (T.step ≤ 60))))))
def recB (r : Int × Int) : Bool := decide (1 ≤ r.1 ∧ r.1 ≤ 999) && decide (1 ≤ r.2 ∧ r.2 ≤ 999)
def sideB (n : Nat) (s : Int) : Bool := decide (0 ≤ s ∧ s ≤ 2 * (n : Int) - 1)
def timeB (t : Int) : Bool := decide (0 ≤ t ∧ t ≤ 9999)
def prB (n : Nat) (x : Int × Int) : Bool := sideB n x.1 && timeB x.2
def prsB (T : TrayD) : Bool := decide (T.prs.length ≤ 12) && T.prs.all (prB T.recs.length)
def okY (T : TrayD) : Bool := headY T && (T.recs.all recB && prsB T)
structure ValidY (T : TrayD) : Prop where
  n1 : 1 ≤ T.recs.length
  n6 : T.recs.length ≤ 6
  a0 : 0 ≤ T.at_
  an : T.at_ < T.recs.length
  wy : T.way = 1 ∨ T.way = -1
  s0 : 0 ≤ T.step
  s1 : T.step ≤ 60
  rc : ∀ r ∈ T.recs, 1 ≤ r.1 ∧ r.1 ≤ 999 ∧ 1 ≤ r.2 ∧ r.2 ≤ 999
  np : T.prs.length ≤ 12
  pr : ∀ x ∈ T.prs, (0 ≤ x.1 ∧ x.1 < 2 * (T.recs.length : Int)) ∧ 0 ≤ x.2 ∧ x.2 ≤ 9999
theorem okY_valid {T : TrayD} (h : okY T = true) : ValidY T := by
  simp only [okY, headY, prsB, Bool.and_eq_true, Bool.or_eq_true, decide_eq_true_eq, List.all_eq_true, recB, prB, sideB, timeB] at h
  obtain ⟨⟨h1, h2, h3, h4, h5, h6, h7⟩, h8, h9, h10⟩ := h
  refine ⟨h1, h2, h3, h4, h5, h6, h7, fun r hr => ?_, h9, fun x hx => ?_⟩
  · have := h8 r hr; omega
  · have := h10 x hx; omega
def chkY (T : TrayD) : Int := if okY T = true then 0 else 20

theorem rIsSide02 (T : TrayD) (s : Int) (v : Value) (w : World) (hv : TyV w v T) (hl : T.recs.length ≤ 1000) :
    Calls Tryd.prog 17 #[v, .int .i64 s] w (RetE (.bool (sideB T.recs.length s)) w) := by
  obtain ⟨p, c, q, d, rfl, hp, hq⟩ := hv
  clear hp hq
  have HW := Lib.hid (fun y => Within02 s 0 (2 * (T.recs.length : Int) - 1) y)
  have hb : winB s 0 (2 * (T.recs.length : Int) - 1) = sideB T.recs.length s := by unfold winB sideB; simp
  rw [hb] at HW
  have hw1 : IntKind.i64.wrap (2 * (T.recs.length : Int)) = 2 * (T.recs.length : Int) := IntWalk.i64_in _ (by omega)
  have hw2 : IntKind.i64.wrap (2 * (T.recs.length : Int) - 1) = 2 * (T.recs.length : Int) - 1 := IntWalk.i64_in _ (by omega)
  clear hb
  go_enter Tryd.func17, Tryd.ntmps17
  go_wp2_with (go_at_call 13; refine (HW.out _).mono ?_; rintro e w2 ⟨rfl, hE2⟩)
  go_ret
  exact RetE.fin (((Ext.refl w).alloc _).trans hE2) rfl
theorem rIsTime02 (t : Int) (w : World) : Calls Tryd.prog 25 #[.int .i64 t] w (RetE (.bool (timeB t)) w) := by
  have HW := Lib.hid (fun y => Within02 t 0 9999 y)
  have hb : winB t 0 9999 = timeB t := by unfold winB timeB; simp
  rw [hb] at HW
  clear hb
  go_enter Tryd.func25, Tryd.ntmps25
  go_wp2_with (go_at_call 13; refine (HW.out _).mono ?_; rintro e w2 ⟨rfl, hE2⟩)
  go_ret
  exact RetE.fin hE2 rfl
end Go.Proofs.YtppncdbhebgcaaaDoor
namespace Go.Proofs.YtppncdbhebgcaaaDoor
open Go.RowKit

def prsN (T : TrayD) : Int := if prsB T = true then 0 else 20
set_option maxRecDepth 20000 in
set_option maxHeartbeats 3200000 in
theorem rpresses02 (T : TrayD) (v : Value) (w : World) (hv : TyV w v T) (hl : T.recs.length ≤ 1000) (hm : T.prs.length ≤ 1000) :
    Calls Tryd.prog 14 #[v, .int .i64 12] w (RetE (.int .i64 (prsN T)) w) := by
  have HV := Lib.hid (fun y (h : Ext w y) => hv.ext h)
  obtain ⟨p, c, q, d, rfl, hp, hq⟩ := hv
  have HQ := Lib.hid hq
  clear hp hq
  go_enter Tryd.func14, Tryd.ntmps14
  go_upto_region 1 with (fail)
  obtain ⟨s0, hs0⟩ : ∃ s0, s0 = w.heap.size := ⟨_, rfl⟩
  obtain ⟨W, hW⟩ : ∃ W, W = w.alloc (.cells #[.slice p T.recs.length c, .int .i64 T.at_, .int .i64 T.way, .int .i64 T.step, .slice q T.prs.length d] 37) := ⟨_, rfl⟩
  have m0 : W.heap[s0]? = some (.cells #[.slice p T.recs.length c, .int .i64 T.at_, .int .i64 T.way, .int .i64 T.step, .slice q T.prs.length d] 37) := by rw [hs0, hW]; exact heap_new _ _
  have hE : Ext w W := by rw [hW]; exact Ext.alloc (Ext.refl _) _
  rw [← hs0, ← hW]
  have a0 := ExtW.cell (v := .slice p T.recs.length c) (cell_of_heap m0 0)
  have a1 := ExtW.cell (v := .int .i64 T.at_) (cell_of_heap m0 1)
  have a2 := ExtW.cell (v := .int .i64 T.way) (cell_of_heap m0 2)
  have a3 := ExtW.cell (v := .int .i64 T.step) (cell_of_heap m0 3)
  have a4 := ExtW.cell (v := .slice q T.prs.length d) (cell_of_heap m0 4)
  have HE := Lib.hid hE
  have HIS := Lib.hid (fun s (x : ExtW W) => ExtW.call (x := x) (rIsSide02 T s _ x.w (HV.out _ (HE.out.trans x.h)) hl))
  have HIT := Lib.hid (fun t (x : ExtW W) => ExtW.call (x := x) (rIsTime02 t x.w))
  obtain ⟨x0, hx0⟩ := ExtW.of (Ext.refl W)
  clear hW m0 hE hs0
  conv => arg 5; rw [hx0]
  clear hx0
  by_cases h12 : (12 : Int) < (T.prs.length : Int)
  · have HB := Lib.hid (show prsB T = false from by unfold prsB; rw [decide_eq_false (by omega)]; rfl)
    go_wp2
    go_ret
    exact RetE.fin (HE.out.trans x0.h) (by unfold prsN; rw [HB.out]; rfl)
  have HN := Lib.hid (show prsB T = T.prs.all (prB T.recs.length) from by unfold prsB; rw [decide_eq_true (by omega)]; rfl)
  go_wp2
  go_loopw [5] (fun i wr => ∃ k : Nat, k ≤ T.prs.length ∧ i = .int .i64 k ∧ (T.prs.take k).all (prB T.recs.length) = true ∧ ∃ x : ExtW W, wr = x.w) (fun i _ => T.prs.length - (intOf i).toNat)
  case atStart => exact ⟨0, Nat.zero_le _, rfl, rfl, x0, rfl⟩
  case round =>
    obtain ⟨k, hk, rfl, ha, x, rfl⟩ := hrel
    have HA := Lib.hid ha
    clear ha
    by_cases hlt : k < T.prs.length
    · have hlt' : (k : Int) < (T.prs.length : Int) := by omega
      obtain ⟨b, o, rfl, hc0, hc1⟩ := HQ.out.at2 k hlt
      have k0 := ExtW.cell (HE.out.cell hc0)
      have k1 := ExtW.cell (HE.out.cell hc1)
      have hts := List.take_succ_eq_append_getElem hlt
      have hmem := List.getElem_mem hlt
      obtain ⟨r, hr⟩ : ∃ r, r = T.prs[k] := ⟨_, rfl⟩
      rw [← hr] at k0 k1 hts hmem
      have his := HIS.out r.1
      have hit := HIT.out r.2
      obtain ⟨b1, hb1⟩ : ∃ b, b = sideB T.recs.length r.1 := ⟨_, rfl⟩
      obtain ⟨b2, hb2⟩ : ∃ b, b = timeB r.2 := ⟨_, rfl⟩
      rw [← hb1] at his
      rw [← hb2] at hit
      have hpb : prB T.recs.length r = (b1 && b2) := by rw [hb1, hb2]; rfl
      have HNX := Lib.hid (show (T.prs.take (k + 1)).all (prB T.recs.length) = (b1 && b2) from by rw [hts, List.all_append, HA.out]; simp [hpb])
      have HBD := Lib.hid (show (b1 && b2) = false → prsB T = false from fun h => by
        rw [HN.out, Bool.eq_false_iff]
        intro h'
        have := List.all_eq_true.1 h' r hmem
        rw [hpb, h] at this
        cases this)
      have HI1 := Lib.hid his
      have HI2 := Lib.hid hit
      obtain ⟨r1, hr1⟩ : ∃ x, x = r.1 := ⟨_, rfl⟩
      obtain ⟨r2, hr2⟩ : ∃ x, x = r.2 := ⟨_, rfl⟩
      rw [← hr1] at k0 HI1
      rw [← hr2] at k1 HI2
      clear hc0 hc1 hts hmem hr his hit hb1 hb2 hpb hr1 hr2
      cases b1 with
      | false =>
        have HF := Lib.hid (HBD.out rfl)
        go_upto_region 6 with (fail)
        refine wp_region_extW (by kernel_rfl) (by kernel_rfl) ?_
        repeat (go_big_quiet_step ((go_at_call 17; exact HI1.out _)))
        refine wpQuiet_nil ?_
        rintro _ ⟨x2, rfl⟩
        go_wp2
        go_ret
        exact RetE.fin (HE.out.trans x2.h) (by unfold prsN; rw [HF.out]; rfl)
      | true =>
        cases b2 with
        | false =>
          have HF := Lib.hid (HBD.out rfl)
          go_upto_region 6 with (fail)
          refine wp_region_extW (by kernel_rfl) (by kernel_rfl) ?_
          repeat (go_big_quiet_step (first | (go_at_call 17; exact HI1.out _) | (go_at_call 25; exact HI2.out _)))
          refine wpQuiet_nil ?_
          rintro _ ⟨x2, rfl⟩
          go_wp2
          go_ret
          exact RetE.fin (HE.out.trans x2.h) (by unfold prsN; rw [HF.out]; rfl)
        | true =>
          go_upto_region 6 with (fail)
          refine wp_region_extW (by kernel_rfl) (by kernel_rfl) ?_
          repeat (go_big_quiet_step (first | (go_at_call 17; exact HI1.out _) | (go_at_call 25; exact HI2.out _)))
          refine wpQuiet_nil ?_
          rintro _ ⟨x2, rfl⟩
          go_wp2
          go_roundw
          case rel => exact ⟨k + 1, by omega, by simp, by rw [HNX.out]; rfl, x2, rfl⟩
          case measure => simp [intOf]; omega
    · obtain rfl : k = T.prs.length := by omega
      have hge : ¬((T.prs.length : Int) < (T.prs.length : Int)) := by omega
      have HF := Lib.hid (show prsB T = true from by rw [HN.out, ← HA.out, List.take_length])
      go_wp2
      go_ret
      exact RetE.fin (HE.out.trans x.h) (by unfold prsN; rw [HF.out]; rfl)

set_option maxRecDepth 20000 in
set_option maxHeartbeats 6400000 in
theorem rCheck02 (T : TrayD) (v : Value) (w : World) (hv : TyV w v T) (hl : T.recs.length ≤ 1000) (hm : T.prs.length ≤ 1000) :
    Calls Tryd.prog 6 #[v] w (RetE (.int .i64 (chkY T)) w) := by
  have HV := Lib.hid (fun y (h : Ext w y) => hv.ext h)
  have HPR := Lib.hid (fun y (h : Ext w y) => rpresses02 T v y (hv.ext h) hl hm)
  obtain ⟨p, c, q, d, rfl, hp, hq⟩ := hv
  have HP := Lib.hid hp
  clear hp hq
  go_enter Tryd.func6, Tryd.ntmps6
  go_upto_region 1 with (fail)
  obtain ⟨s0, hs0⟩ : ∃ s0, s0 = w.heap.size := ⟨_, rfl⟩
  obtain ⟨W, hW⟩ : ∃ W, W = w.alloc (.cells #[.slice p T.recs.length c, .int .i64 T.at_, .int .i64 T.way, .int .i64 T.step, .slice q T.prs.length d] 37) := ⟨_, rfl⟩
  have m0 : W.heap[s0]? = some (.cells #[.slice p T.recs.length c, .int .i64 T.at_, .int .i64 T.way, .int .i64 T.step, .slice q T.prs.length d] 37) := by rw [hs0, hW]; exact heap_new _ _
  have hE : Ext w W := by rw [hW]; exact Ext.alloc (Ext.refl _) _
  rw [← hs0, ← hW]
  have a0 := ExtW.cell (v := .slice p T.recs.length c) (cell_of_heap m0 0)
  have a1 := ExtW.cell (v := .int .i64 T.at_) (cell_of_heap m0 1)
  have a2 := ExtW.cell (v := .int .i64 T.way) (cell_of_heap m0 2)
  have a3 := ExtW.cell (v := .int .i64 T.step) (cell_of_heap m0 3)
  have a4 := ExtW.cell (v := .slice q T.prs.length d) (cell_of_heap m0 4)
  have HE := Lib.hid hE
  have HWI := Lib.hid (fun n lo hi (x : ExtW W) => ExtW.callX (x := x) (Within02 n lo hi x.w))
  obtain ⟨x0, hx0⟩ := ExtW.of (Ext.refl W)
  clear hW m0 hE hs0
  conv => arg 5; rw [hx0]
  clear hx0
  have hw1 : IntKind.i64.wrap ((T.recs.length : Int) - 1) = (T.recs.length : Int) - 1 := IntWalk.i64_in _ (by omega)
  obtain ⟨b1, hb1⟩ : ∃ b, winB (T.recs.length : Int) 1 6 = b := ⟨_, rfl⟩
  obtain ⟨b2, hb2⟩ : ∃ b, winB T.at_ 0 ((T.recs.length : Int) - 1) = b := ⟨_, rfl⟩
  obtain ⟨b3, hb3⟩ : ∃ b, winB T.step 0 60 = b := ⟨_, rfl⟩
  obtain ⟨y1, hy1⟩ : ∃ b, (T.way != 1) = b := ⟨_, rfl⟩
  obtain ⟨y2, hy2⟩ : ∃ b, (T.way != -1) = b := ⟨_, rfl⟩
  have HH := Lib.hid (show headY T = (b1 && b2 && !(y1 && y2) && b3) from by
    rw [← hb1, ← hb2, ← hb3, ← hy1, ← hy2, Bool.eq_iff_iff]
    simp [headY, winB]
    omega)
  have HQ1 := Lib.hid (fun x : ExtW W => (by have := HWI.out (T.recs.length : Int) 1 6 x; rwa [hb1] at this : Calls Tryd.prog 13 #[.int .i64 (T.recs.length : Int), .int .i64 1, .int .i64 6] x.w (fun e w'' => e = .returned (.bool b1) ∧ ∃ y : ExtW W, w'' = y.w ∧ Ext x.w y.w)))
  have HQ2 := Lib.hid (fun x : ExtW W => (by have := HWI.out T.at_ 0 ((T.recs.length : Int) - 1) x; rwa [hb2] at this : Calls Tryd.prog 13 #[.int .i64 T.at_, .int .i64 0, .int .i64 ((T.recs.length : Int) - 1)] x.w (fun e w'' => e = .returned (.bool b2) ∧ ∃ y : ExtW W, w'' = y.w ∧ Ext x.w y.w)))
  have HQ3 := Lib.hid (fun x : ExtW W => (by have := HWI.out T.step 0 60 x; rwa [hb3] at this : Calls Tryd.prog 13 #[.int .i64 T.step, .int .i64 0, .int .i64 60] x.w (fun e w'' => e = .returned (.bool b3) ∧ ∃ y : ExtW W, w'' = y.w ∧ Ext x.w y.w)))
  clear hb1 hb2 hb3
  by_cases hh : headY T = true
  case neg =>
    have HB := Lib.hid (show okY T = false from by unfold okY; rw [Bool.eq_false_iff.2 hh]; rfl)
    rw [HH.out] at hh
    cases b1
    · clear hh
      go_wp2_with (first | (go_at_call 13; with_reducible refine (HQ1.out _).mono ?_; rintro e _ ⟨rfl, x1, rfl, -⟩))
      go_ret
      exact RetE.fin (HE.out.trans x1.h) (by unfold chkY; rw [HB.out]; rfl)
    cases b2
    · clear hh
      go_wp2_with (first | (go_at_call 13; with_reducible refine (HQ1.out _).mono ?_; rintro e _ ⟨rfl, x1, rfl, -⟩) | (go_at_call 13; with_reducible refine (HQ2.out _).mono ?_; rintro e _ ⟨rfl, x2, rfl, -⟩))
      go_ret
      exact RetE.fin (HE.out.trans x2.h) (by unfold chkY; rw [HB.out]; rfl)
    cases y1
    · cases b3
      · clear hh
        go_wp2_with (first | (go_at_call 13; with_reducible refine (HQ1.out _).mono ?_; rintro e _ ⟨rfl, x1, rfl, -⟩) | (go_at_call 13; with_reducible refine (HQ2.out _).mono ?_; rintro e _ ⟨rfl, x2, rfl, -⟩) | (go_at_call 13; with_reducible refine (HQ3.out _).mono ?_; rintro e _ ⟨rfl, x3, rfl, -⟩))
        go_ret
        exact RetE.fin (HE.out.trans x3.h) (by unfold chkY; rw [HB.out]; rfl)
      · simp at hh
    · cases y2
      · cases b3
        · clear hh
          go_wp2_with (first | (go_at_call 13; with_reducible refine (HQ1.out _).mono ?_; rintro e _ ⟨rfl, x1, rfl, -⟩) | (go_at_call 13; with_reducible refine (HQ2.out _).mono ?_; rintro e _ ⟨rfl, x2, rfl, -⟩) | (go_at_call 13; with_reducible refine (HQ3.out _).mono ?_; rintro e _ ⟨rfl, x3, rfl, -⟩))
          go_ret
          exact RetE.fin (HE.out.trans x3.h) (by unfold chkY; rw [HB.out]; rfl)
        · simp at hh
      · clear hh
        go_wp2_with (first | (go_at_call 13; with_reducible refine (HQ1.out _).mono ?_; rintro e _ ⟨rfl, x1, rfl, -⟩) | (go_at_call 13; with_reducible refine (HQ2.out _).mono ?_; rintro e _ ⟨rfl, x2, rfl, -⟩))
        go_ret
        exact RetE.fin (HE.out.trans x2.h) (by unfold chkY; rw [HB.out]; rfl)
  have HOK := Lib.hid (show okY T = (T.recs.all recB && prsB T) from by unfold okY; rw [hh]; rfl)
  rw [HH.out] at hh
  have hb : b1 = true ∧ b2 = true ∧ b3 = true ∧ (y1 && y2) = false := by
    revert hh; cases b1 <;> cases b2 <;> cases b3 <;> cases y1 <;> cases y2 <;> decide
  obtain ⟨rfl, rfl, rfl, hyy⟩ := hb
  clear hh HH
  have hy : y1 = false ∨ (y1 = true ∧ y2 = false) := by revert hyy; cases y1 <;> cases y2 <;> decide
  clear hyy
  rcases hy with rfl | ⟨rfl, rfl⟩
  all_goals
    go_upto_region 3 with (first | (go_at_call 13; with_reducible refine (HQ1.out _).mono ?_; rintro e _ ⟨rfl, x1, rfl, -⟩) | (go_at_call 13; with_reducible refine (HQ2.out _).mono ?_; rintro e _ ⟨rfl, x2, rfl, -⟩) | (go_at_call 13; with_reducible refine (HQ3.out _).mono ?_; rintro e _ ⟨rfl, x3, rfl, -⟩))
    clear HQ1 HQ2 HQ3 hy1 hy2
    go_wp2
    go_loopw [3] (fun i wr => ∃ k : Nat, k ≤ T.recs.length ∧ i = .int .i64 k ∧ (T.recs.take k).all recB = true ∧ ∃ x : ExtW W, wr = x.w) (fun i _ => T.recs.length - (intOf i).toNat)
    case atStart => exact ⟨0, Nat.zero_le _, rfl, rfl, x3, rfl⟩
    case round =>
      obtain ⟨k, hk, rfl, ha, x, rfl⟩ := hrel
      have HA := Lib.hid ha
      clear ha
      by_cases hlt : k < T.recs.length
      · have hlt' : (k : Int) < (T.recs.length : Int) := by omega
        obtain ⟨b, o, rfl, hc0, hc1⟩ := HP.out.at2 k hlt
        have k0 := ExtW.cell (HE.out.cell hc0)
        have k1 := ExtW.cell (HE.out.cell hc1)
        have hts := List.take_succ_eq_append_getElem hlt
        have hmem := List.getElem_mem hlt
        obtain ⟨r, hr⟩ : ∃ r, r = T.recs[k] := ⟨_, rfl⟩
        rw [← hr] at k0 k1 hts hmem
        have his := fun x => HWI.out r.1 1 999 x
        have hit := fun x => HWI.out r.2 1 999 x
        obtain ⟨c1, hc1'⟩ : ∃ b, b = winB r.1 1 999 := ⟨_, rfl⟩
        obtain ⟨c2, hc2'⟩ : ∃ b, b = winB r.2 1 999 := ⟨_, rfl⟩
        rw [← hc1'] at his
        rw [← hc2'] at hit
        have hpb : recB r = (c1 && c2) := by rw [hc1', hc2']; unfold recB winB; simp
        have HNX := Lib.hid (show (T.recs.take (k + 1)).all recB = (c1 && c2) from by rw [hts, List.all_append, HA.out]; simp [hpb])
        have HBD := Lib.hid (show (c1 && c2) = false → okY T = false from fun h => by
          rw [HOK.out, Bool.eq_false_iff]
          intro h'
          have := List.all_eq_true.1 (Bool.and_eq_true_iff.1 h').1 r hmem
          rw [hpb, h] at this
          cases this)
        obtain ⟨r1, hr1⟩ : ∃ x, x = r.1 := ⟨_, rfl⟩
        obtain ⟨r2, hr2⟩ : ∃ x, x = r.2 := ⟨_, rfl⟩
        rw [← hr1] at k0 his
        rw [← hr2] at k1 hit
        have HI1 := Lib.hid his
        have HI2 := Lib.hid hit
        clear hc0 hc1 hts hmem hr his hit hc1' hc2' hpb hr1 hr2
        cases c1 with
        | false =>
          have HF := Lib.hid (HBD.out rfl)
          go_wp2_with (fail)
          go_at_call 13
          with_reducible refine (HI1.out _).mono ?_
          rintro e _ ⟨rfl, x5, rfl, -⟩
          go_wp2
          go_ret
          exact RetE.fin (HE.out.trans x5.h) (by unfold chkY; rw [HF.out]; rfl)
        | true =>
          cases c2 with
          | false =>
            have HF := Lib.hid (HBD.out rfl)
            go_wp2_with (fail)
            go_at_call 13
            with_reducible refine (HI1.out _).mono ?_
            rintro e _ ⟨rfl, x5, rfl, -⟩
            go_wp2_with (fail)
            go_at_call 13
            with_reducible refine (HI2.out _).mono ?_
            rintro e _ ⟨rfl, x6, rfl, -⟩
            go_wp2
            go_ret
            exact RetE.fin (HE.out.trans x6.h) (by unfold chkY; rw [HF.out]; rfl)
          | true =>
            go_wp2_with (fail)
            go_at_call 13
            with_reducible refine (HI1.out _).mono ?_
            rintro e _ ⟨rfl, x5, rfl, -⟩
            go_wp2_with (fail)
            go_at_call 13
            with_reducible refine (HI2.out _).mono ?_
            rintro e _ ⟨rfl, x6, rfl, -⟩
            go_wp2
            go_roundw
            case rel => exact ⟨k + 1, by omega, by simp, by rw [HNX.out]; rfl, x6, rfl⟩
            case measure => simp [intOf]; omega
      · obtain rfl : k = T.recs.length := by omega
        have hge : ¬((T.recs.length : Int) < (T.recs.length : Int)) := by omega
        have HF := Lib.hid (show chkY T = prsN T from by unfold chkY prsN; rw [HOK.out, ← List.take_length (l := T.recs), HA.out]; rfl)
        have HPX := Lib.hid (HPR.out x.w (HE.out.trans x.h))
        obtain ⟨z, hz⟩ : ∃ z : Int, z = prsN T := ⟨_, rfl⟩
        rw [← hz] at HF HPX
        clear hz
        go_wp2_with (go_at_call 14; refine HPX.out.mono ?_; rintro e w9 ⟨rfl, hE9⟩)
        go_ret
        exact RetE.fin (HE.out.trans (x.h.trans hE9)) (by rw [HF.out]; rfl)
end Go.Proofs.YtppncdbhebgcaaaDoor
namespace Go.Proofs.YtppncdbhebgcaaaDoor

structure Car where
  queue : List (Int × Int)
  pins : List Bool
  now : Int
  pos : Int
  way : Int
  plays : List (Int × Int)
/-- all pins up to now are set -/
def pressL (now : Int) : List (Int × Int) → List Bool → List (Int × Int) × List Bool
  | [], p => ([], p)
  | (s, t) :: q, p => if t ≤ now then pressL now q (p.set s.toNat true) else ((s, t) :: q, p)
def sideC (c : Car) : Int := if c.way < 0 then 2 * c.pos + 1 else 2 * c.pos
def lastC (R : List (Int × Int)) (s : Int) : Int := if s.tmod 2 = 0 then (R.getD (s.tdiv 2).toNat (0, 0)).1 else (R.getD (s.tdiv 2).toNat (0, 0)).2
def playC (R : List (Int × Int)) (c : Car) : Car :=
  if c.pins.getD (sideC c).toNat false then { c with pins := c.pins.set (sideC c).toNat false, plays := c.plays ++ [(sideC c, c.now)], now := c.now + lastC R (sideC c) } else c
def nextC (n : Nat) (st : Int) (c : Car) : Car :=
  if 0 ≤ c.pos + c.way ∧ c.pos + c.way < n then { c with pos := c.pos + c.way, now := c.now + st } else { c with way := -c.way }
def pressC (c : Car) : Car := { c with queue := (pressL c.now c.queue c.pins).1, pins := (pressL c.now c.queue c.pins).2 }
def actC (R : List (Int × Int)) (st : Int) (c : Car) : Car × Bool :=
  if (pressC c).pins.any id then (nextC R.length st (playC R (pressC c)), true) else
    match (pressC c).queue with
    | [] => (pressC c, false)
    | x :: _ => ({ pressC c with now := x.2 }, true)
def runC (R : List (Int × Int)) (st : Int) : Nat → Car → Car
  | 0, c => c
  | f + 1, c => if (actC R st c).2 then runC R st f (actC R st c).1 else (actC R st c).1
structure CarOK (n : Nat) (N : Nat) (c : Car) : Prop where
  pl : c.pins.length = 2 * n
  p0 : 0 ≤ c.pos
  pn : c.pos < n
  wy : c.way = 1 ∨ c.way = -1
  qs : ∀ x ∈ c.queue, 0 ≤ x.1 ∧ x.1 < 2 * n ∧ 0 ≤ x.2 ∧ x.2 ≤ 9999
  ps : ∀ x ∈ c.plays, 0 ≤ x.1 ∧ x.1 < 2 * n
  cnt : c.plays.length + c.queue.length + c.pins.countP id ≤ N
/-- positions, as they come one after another -/
def cyc (n : Nat) (c : Car) : Nat := if c.way < 0 then 2 * n - 1 - c.pos.toNat else c.pos.toNat
def sideOf (n k : Nat) : Nat := if k < n then 2 * k else 2 * (2 * n - 1 - k) + 1
def pinAt (n : Nat) (c : Car) (m : Nat) : Prop := c.pins.getD (sideOf n ((cyc n c + m) % (2 * n))) false = true
def Bd (n : Nat) (c : Car) (X : Nat) : Prop :=
  ∃ m, (2 * c.queue.length + c.pins.countP id) * (2 * n + 2) + m ≤ X ∧ ((m < 2 * n ∧ pinAt n c m) ∨ (c.pins.countP id = 0 ∧ 1 ≤ m) ∨ (c.pins.countP id = 0 ∧ ∀ x, c.queue.head? = some x → x.2 ≤ c.now))
theorem Bd.mono {n : Nat} {c : Car} {X Y : Nat} (h : Bd n c X) (hXY : X ≤ Y) : Bd n c Y := by
  obtain ⟨m, h1, h2⟩ := h
  exact ⟨m, by omega, h2⟩
theorem count_set_true : ∀ (p : List Bool) (i : Nat), (p.set i true).countP id ≤ p.countP id + 1 := by
  intro p
  induction p with
  | nil => intro i; simp
  | cons a p ih =>
    intro i
    cases i with
    | zero => rw [List.set_cons_zero, List.countP_cons, List.countP_cons]; cases a <;> simp
    | succ i =>
      have := ih i
      rw [List.set_cons_succ, List.countP_cons, List.countP_cons]
      omega
theorem count_set_false : ∀ (p : List Bool) (i : Nat), p.getD i false = true → (p.set i false).countP id + 1 = p.countP id := by
  intro p
  induction p with
  | nil => intro i h; simp at h
  | cons a p ih =>
    intro i h
    cases i with
    | zero =>
      have : a = true := by simpa using h
      subst this
      rw [List.set_cons_zero, List.countP_cons, List.countP_cons]
      simp
    | succ i =>
      have := ih i (by simpa using h)
      rw [List.set_cons_succ, List.countP_cons, List.countP_cons]
      omega
theorem count_pos_set (p : List Bool) (i : Nat) (h : i < p.length) : 1 ≤ (p.set i true).countP id := by
  have : 0 < (p.set i true).countP id := List.countP_pos_iff.2 ⟨true, List.mem_of_getElem? (i := i) (by rw [List.getElem?_set_self h]), rfl⟩
  exact this
theorem any_count (p : List Bool) : p.any id = true ↔ 1 ≤ p.countP id := by
  rw [List.any_eq_true, show (1 ≤ p.countP id) = (0 < p.countP id) from rfl, List.countP_pos_iff]
theorem press_mono (now : Int) : ∀ (q : List (Int × Int)) (p : List Bool), p.countP id ≤ (pressL now q p).2.countP id ∧ (pressL now q p).2.length = p.length := by
  intro q
  induction q with
  | nil => intro p; exact ⟨Nat.le_refl _, rfl⟩
  | cons x q ih =>
    intro p
    unfold pressL
    split
    · have h1 := ih (p.set x.1.toNat true)
      have h2 : p.countP id ≤ (p.set x.1.toNat true).countP id := by
        have key : ∀ (p : List Bool) (i : Nat), p.countP id ≤ (p.set i true).countP id := by
          intro p
          induction p with
          | nil => intro i; simp
          | cons a p ih =>
            intro i
            cases i with
            | zero => rw [List.set_cons_zero, List.countP_cons, List.countP_cons]; cases a <;> simp
            | succ i =>
              have := ih i
              rw [List.set_cons_succ, List.countP_cons, List.countP_cons]
              omega
        exact key _ _
      exact ⟨by omega, by rw [h1.2, List.length_set]⟩
    · exact ⟨Nat.le_refl _, rfl⟩
theorem press_law (now : Int) {n : Nat} : ∀ (q : List (Int × Int)) (p : List Bool), p.length = 2 * n → (∀ x ∈ q, 0 ≤ x.1 ∧ x.1 < 2 * n) →
    (pressL now q p = (q, p) ∧ ∀ x, q.head? = some x → now < x.2) ∨ (2 * (pressL now q p).1.length + (pressL now q p).2.countP id + 1 ≤ 2 * q.length + p.countP id ∧ 1 ≤ (pressL now q p).2.countP id) := by
  intro q
  induction q with
  | nil => intro p _ _; exact Or.inl ⟨rfl, fun x hx => by cases hx⟩
  | cons x q ih =>
    intro p hl hq
    unfold pressL
    by_cases c : x.2 ≤ now
    · rw [if_pos c]
      have hx := hq x List.mem_cons_self
      have h1 := count_set_true p x.1.toNat
      have h2 := count_pos_set p x.1.toNat (by omega)
      have h3 := press_mono now q (p.set x.1.toNat true)
      right
      rcases ih (p.set x.1.toNat true) (by rw [List.length_set]; exact hl) (fun y hy => hq y (List.mem_cons_of_mem _ hy)) with ⟨h, -⟩ | ⟨h, h'⟩
      · rw [h, List.length_cons]
        exact ⟨by simp only; omega, h2⟩
      · rw [List.length_cons]
        exact ⟨by omega, by omega⟩
    · rw [if_neg c]
      exact Or.inl ⟨rfl, fun y hy => by cases hy; omega⟩
theorem press_sub (now : Int) : ∀ (q : List (Int × Int)) (p : List Bool), (∀ x ∈ (pressL now q p).1, x ∈ q) ∧ (pressL now q p).1.length + (pressL now q p).2.countP id ≤ q.length + p.countP id := by
  intro q
  induction q with
  | nil => intro p; exact ⟨fun x hx => hx, Nat.le_refl _⟩
  | cons x q ih =>
    intro p
    unfold pressL
    split
    · have h1 := ih (p.set x.1.toNat true)
      have h2 := count_set_true p x.1.toNat
      exact ⟨fun y hy => List.mem_cons_of_mem _ (h1.1 y hy), by rw [List.length_cons]; omega⟩
    · exact ⟨fun y hy => hy, Nat.le_refl _⟩
section
variable {n N : Nat} {c : Car}
theorem CarOK.press (h : CarOK n N c) : CarOK n N (pressC c) := by
  have h1 := press_sub c.now c.queue c.pins
  exact ⟨by show (pressL _ _ _).2.length = _; rw [(press_mono _ _ _).2]; exact h.pl, h.p0, h.pn, h.wy, fun x hx => h.qs x (h1.1 x hx), h.ps, by have := h.cnt; have h2 := h1.2; show c.plays.length + (pressL _ _ _).1.length + (pressL _ _ _).2.countP id ≤ N; omega⟩
theorem side_cyc (h : CarOK n N c) : sideC c = sideOf n (cyc n c) ∧ cyc n c < 2 * n := by
  have := h.p0; have := h.pn
  unfold sideC sideOf cyc
  rcases h.wy with e | e
  · rw [e]
    have h1 : ¬(1 : Int) < 0 := by decide
    simp only [h1, if_false]
    rw [if_pos (by omega)]
    omega
  · rw [e]
    have h1 : (-1 : Int) < 0 := by decide
    simp only [h1, if_true]
    rw [if_neg (by omega)]
    omega
theorem CarOK.play (h : CarOK n N c) (R : List (Int × Int)) : CarOK n N (playC R c) := by
  unfold playC
  split
  · next hp =>
    have h1 := count_set_false _ _ hp
    have h2 := side_cyc h
    have h3 : sideOf n (cyc n c) < 2 * n := by unfold sideOf; split <;> omega
    exact ⟨by rw [List.length_set]; exact h.pl, h.p0, h.pn, h.wy, h.qs, fun x hx => by
      rcases List.mem_append.1 hx with e | e
      · exact h.ps x e
      · rw [List.mem_singleton.1 e]
        exact ⟨by show 0 ≤ sideC c; omega, by show sideC c < _; omega⟩, by have := h.cnt; rw [List.length_append, List.length_singleton]; simp only; omega⟩
  · exact h
theorem CarOK.next (h : CarOK n N c) (st : Int) : CarOK n N (nextC n st c) := by
  unfold nextC
  split
  · next hp => exact ⟨h.pl, hp.1, hp.2, h.wy, h.qs, h.ps, h.cnt⟩
  · exact ⟨h.pl, h.p0, h.pn, by rcases h.wy with e | e <;> simp [e], h.qs, h.ps, h.cnt⟩
theorem next_cyc (h : CarOK n N c) (st : Int) : cyc n (nextC n st c) = (cyc n c + 1) % (2 * n) := by
  have h0 := h.p0; have hn := h.pn
  unfold nextC cyc
  rcases h.wy with e | e
  · rw [e]
    by_cases c1 : 0 ≤ c.pos + 1 ∧ c.pos + 1 < n
    · rw [if_pos c1]
      simp only
      rw [if_neg (by decide), if_neg (by decide), Nat.mod_eq_of_lt (by omega)]
      omega
    · rw [if_neg c1]
      simp only
      rw [if_pos (by decide), if_neg (by decide), Nat.mod_eq_of_lt (by omega)]
      omega
  · rw [e]
    by_cases c1 : 0 ≤ c.pos + -1 ∧ c.pos + -1 < n
    · rw [if_pos c1]
      simp only
      rw [if_pos (by decide), if_pos (by decide), Nat.mod_eq_of_lt (by omega)]
      omega
    · rw [if_neg c1]
      simp only
      rw [if_neg (by decide), if_pos (by decide)]
      have : 2 * n - 1 - c.pos.toNat + 1 = 2 * n := by omega
      rw [this, Nat.mod_self]
      omega
theorem next_same (n : Nat) (st : Int) (c : Car) : (nextC n st c).pins = c.pins ∧ (nextC n st c).queue = c.queue ∧ (nextC n st c).plays = c.plays := by
  unfold nextC; split <;> exact ⟨rfl, rfl, rfl⟩
/-- a pin that is set is met -/
theorem pin_ex (h : CarOK n N c) (hp : 1 ≤ c.pins.countP id) : ∃ m, m < 2 * n ∧ pinAt n c m := by
  obtain ⟨b, hb, hb'⟩ := List.countP_pos_iff.1 (show 0 < c.pins.countP id from hp)
  obtain ⟨s, hs, he⟩ := List.getElem_of_mem hb
  rw [h.pl] at hs
  have hk : ∃ k, k < 2 * n ∧ sideOf n k = s := by
    rcases Nat.mod_two_eq_zero_or_one s with e | e
    · exact ⟨s / 2, by omega, by unfold sideOf; rw [if_pos (by omega)]; omega⟩
    · exact ⟨2 * n - 1 - (s - 1) / 2, by omega, by unfold sideOf; rw [if_neg (by omega)]; omega⟩
  obtain ⟨k, hk1, hk2⟩ := hk
  have hc := (side_cyc h).2
  refine ⟨(k + 2 * n - cyc n c) % (2 * n), Nat.mod_lt _ (by omega), ?_⟩
  unfold pinAt
  have e : (cyc n c + (k + 2 * n - cyc n c) % (2 * n)) % (2 * n) = k := by
    rw [Nat.add_mod_mod, show cyc n c + (k + 2 * n - cyc n c) = k + 2 * n by omega, Nat.add_mod_right, Nat.mod_eq_of_lt hk1]
  rw [e, hk2, List.getD_eq_getElem?_getD, List.getElem?_eq_getElem (by rw [h.pl]; exact hs), he]
  simpa using hb'
/-- each act but the last one brings the end nearer -/
theorem act_bd (h : CarOK n N c) {R : List (Int × Int)} (hR : R.length = n) {st : Int} {X : Nat} (hB : Bd n c X) (ha : (actC R st c).2 = true) : CarOK n N (actC R st c).1 ∧ 1 ≤ X ∧ Bd n (actC R st c).1 (X - 1) := by
  obtain ⟨m, hm, hc⟩ := hB
  have hP := h.press
  have hlaw := press_law c.now (n := n) c.queue c.pins h.pl fun x hx => ⟨(h.qs x hx).1, (h.qs x hx).2.1⟩
  obtain ⟨W, hW⟩ : ∃ W, W = 2 * n + 2 := ⟨_, rfl⟩
  rw [← hW] at hm
  have hmul : ∀ a b : Nat, a + 1 ≤ b → a * W + W ≤ b * W := fun a b hab => by
    have := Nat.mul_le_mul_right W hab
    rwa [Nat.succ_mul] at this
  unfold actC at ha ⊢
  by_cases hany : (pressC c).pins.any id = true
  · rw [if_pos hany]
    simp only
    have hp1 := (any_count _).1 hany
    have hY : ∃ m1, m1 < 2 * n ∧ pinAt n (pressC c) m1 ∧ (2 * (pressC c).queue.length + (pressC c).pins.countP id) * W + m1 ≤ X := by
      rcases hlaw with ⟨he, hh⟩ | ⟨he, hh⟩
      · have e : pressC c = c := by unfold pressC; rw [he]
        rw [e] at hp1 ⊢
        rcases hc with ⟨h1, h2⟩ | ⟨h1, -⟩ | ⟨h1, -⟩
        · exact ⟨m, h1, h2, hm⟩
        · omega
        · omega
      · obtain ⟨m1, h1, h2⟩ := pin_ex hP hp1
        refine ⟨m1, h1, h2, ?_⟩
        have := hmul (2 * (pressC c).queue.length + (pressC c).pins.countP id) (2 * c.queue.length + c.pins.countP id) he
        omega
    obtain ⟨m1, h1, h2, h3⟩ := hY
    obtain ⟨d, hd⟩ : ∃ d, d = pressC c := ⟨_, rfl⟩
    rw [← hd] at hP h2 h3 hp1 ⊢
    have hPl := hP.play R
    have hOK : CarOK n N (nextC R.length st (playC R d)) := by rw [hR]; exact hPl.next st
    obtain ⟨q1, q2, q3⟩ := next_same n st (playC R d)
    rw [hR] at hOK ⊢
    refine ⟨hOK, ?_⟩
    by_cases hpin : d.pins.getD (sideC d).toNat false = true
    · have e : playC R d = { d with pins := d.pins.set (sideC d).toNat false, plays := d.plays ++ [(sideC d, d.now)], now := d.now + lastC R (sideC d) } := by unfold playC; rw [if_pos hpin]
      have h4 := count_set_false _ _ hpin
      have e1 : (nextC n st (playC R d)).pins.countP id + 1 = d.pins.countP id := by rw [q1, e]; exact h4
      have e2 : (nextC n st (playC R d)).queue.length = d.queue.length := by rw [q2, e]
      have := hmul (2 * (nextC n st (playC R d)).queue.length + (nextC n st (playC R d)).pins.countP id) (2 * d.queue.length + d.pins.countP id) (by omega)
      refine ⟨by omega, ?_⟩
      unfold Bd
      rw [← hW]
      by_cases hz : (nextC n st (playC R d)).pins.countP id = 0
      · exact ⟨1, by omega, Or.inr (Or.inl ⟨hz, Nat.le_refl _⟩)⟩
      · obtain ⟨m2, k1, k2⟩ := pin_ex hOK (by omega)
        exact ⟨m2, by omega, Or.inl ⟨k1, k2⟩⟩
    · have e : playC R d = d := by unfold playC; rw [if_neg hpin]
      rw [e] at q1 q2 hOK ⊢
      have hs := side_cyc hP
      have hm0 : m1 ≠ 0 := fun h0 => by
        subst h0
        unfold pinAt at h2
        rw [Nat.add_zero, Nat.mod_eq_of_lt hs.2] at h2
        exact hpin (by rw [hs.1, Int.toNat_natCast]; exact h2)
      refine ⟨by omega, m1 - 1, ?_, Or.inl ⟨by omega, ?_⟩⟩
      · rw [← hW, q1, q2]; omega
      · unfold pinAt at h2 ⊢
        rw [q1, next_cyc hP st, Nat.mod_add_mod, show cyc n d + 1 + (m1 - 1) = cyc n d + m1 by omega]
        exact h2
  · rw [if_neg hany] at ha ⊢
    have hp0 : (pressC c).pins.countP id = 0 := by
      have : ¬1 ≤ (pressC c).pins.countP id := fun h => hany ((any_count _).2 h)
      omega
    rcases hlaw with ⟨he, hh⟩ | ⟨he, hh⟩
    · have e : pressC c = c := by unfold pressC; rw [he]
      rw [e] at ha hp0 ⊢
      cases hq : c.queue with
      | nil => rw [hq] at ha; cases ha
      | cons x q =>
        simp only
        have hx := hh x (by rw [hq]; rfl)
        have hm1 : 1 ≤ m := by
          rcases hc with ⟨-, h2⟩ | ⟨-, h2⟩ | ⟨-, h2⟩
          · unfold pinAt at h2
            have : 0 < c.pins.countP id := List.countP_pos_iff.2 ⟨true, by
              rw [List.getD_eq_getElem?_getD] at h2
              cases hg : c.pins[sideOf n ((cyc n c + m) % (2 * n))]? with
              | none => rw [hg] at h2; cases h2
              | some b => rw [hg] at h2; have hb : b = true := h2; subst hb; exact List.mem_of_getElem? hg, rfl⟩
            omega
          · exact h2
          · have := h2 x (by rw [hq]; rfl)
            omega
        refine ⟨⟨h.pl, h.p0, h.pn, h.wy, h.qs, h.ps, h.cnt⟩, by omega, 0, ?_, Or.inr (Or.inr ⟨hp0, fun y hy => ?_⟩)⟩
        · show (2 * c.queue.length + c.pins.countP id) * (2 * n + 2) + 0 ≤ X - 1
          rw [← hW]
          omega
        · have hy' : c.queue.head? = some y := hy
          rw [hq] at hy'
          cases hy'
          exact Int.le_refl _
    · have : 1 ≤ (pressC c).pins.countP id := hh
      omega
theorem act_ok (h : CarOK n N c) {R : List (Int × Int)} (hR : R.length = n) {st : Int} : CarOK n N (actC R st c).1 := by
  have hP := h.press
  unfold actC
  split
  · rw [hR]; exact (hP.play R).next st
  · split
    · exact hP
    · exact ⟨hP.pl, hP.p0, hP.pn, hP.wy, hP.qs, hP.ps, hP.cnt⟩
end
end Go.Proofs.YtppncdbhebgcaaaDoor
namespace Go.Proofs.YtppncdbhebgcaaaDoor
open Go.RowKit

theorem pisSide02 (T : TrayD) (s : Int) (v : Value) (w : World) (hv : TyV w v T) (hl : T.recs.length ≤ 1000) (h0 : 0 ≤ s) (h1 : s < 2 * (T.recs.length : Int)) :
    Calls Tryd.prog 39 #[v, .int .i64 s] w (RetE (.bool true) w) := by
  obtain ⟨p, c, q, d, rfl, hp, hq⟩ := hv
  clear hp hq
  have hw1 : IntKind.i64.wrap (2 * (T.recs.length : Int)) = 2 * (T.recs.length : Int) := IntWalk.i64_in _ (by omega)
  go_enter Tryd.func39, Tryd.ntmps39
  go_wp2
  go_ret
  exact RetE.fin ((Ext.refl w).alloc _) rfl
theorem pisTime02 (t : Int) (w : World) (h0 : 0 ≤ t) (h1 : t ≤ 9999) : Calls Tryd.prog 40 #[.int .i64 t] w (RetE (.bool true) w) := by
  go_enter Tryd.func40, Tryd.ntmps40
  go_wp2
  go_ret
  exact RetE.fin (Ext.refl w) rfl

set_option maxRecDepth 20000 in
set_option maxHeartbeats 6400000 in
theorem pCheck02 (T : TrayD) (v : Value) (w : World) (hv : TyV w v T) (hT : ValidY T) :
    Calls Tryd.prog 26 #[v] w (RetE (.int .i64 0) w) := by
  have HV := Lib.hid (fun y (h : Ext w y) => hv.ext h)
  have HVT := Lib.hid hT
  obtain ⟨p, c, q, d, rfl, hp, hq⟩ := hv
  have HP := Lib.hid hp
  have HQ := Lib.hid hq
  have g1 : (1 : Int) ≤ (T.recs.length : Int) := by have := hT.n1; omega
  have g2 : (T.recs.length : Int) ≤ 6 := by have := hT.n6; omega
  have g3 := hT.a0
  have g4 := hT.an
  have g5 := hT.s0
  have g6 := hT.s1
  have g7 : (T.prs.length : Int) ≤ 12 := by have := hT.np; omega
  have hwy := hT.wy
  obtain ⟨y1, hy1⟩ : ∃ b, (T.way == 1) = b := ⟨_, rfl⟩
  obtain ⟨y2, hy2⟩ : ∃ b, (T.way == -1) = b := ⟨_, rfl⟩
  have hy : y1 = true ∨ (y1 = false ∧ y2 = true) := by
    rw [← hy1, ← hy2]
    rcases hwy with h | h <;> rw [h] <;> decide
  clear hp hq hT hwy
  go_enter Tryd.func26, Tryd.ntmps26
  go_upto_region 1 with (fail)
  obtain ⟨s0, hs0⟩ : ∃ s0, s0 = w.heap.size := ⟨_, rfl⟩
  obtain ⟨W, hW⟩ : ∃ W, W = w.alloc (.cells #[.slice p T.recs.length c, .int .i64 T.at_, .int .i64 T.way, .int .i64 T.step, .slice q T.prs.length d] 37) := ⟨_, rfl⟩
  have m0 : W.heap[s0]? = some (.cells #[.slice p T.recs.length c, .int .i64 T.at_, .int .i64 T.way, .int .i64 T.step, .slice q T.prs.length d] 37) := by rw [hs0, hW]; exact heap_new _ _
  have hE : Ext w W := by rw [hW]; exact Ext.alloc (Ext.refl _) _
  rw [← hs0, ← hW]
  have a0 : W.cell? ⟨s0, 0, none⟩ = some (.slice p T.recs.length c) := cell_of_heap m0 0
  have a1 : W.cell? ⟨s0, 1, none⟩ = some (.int .i64 T.at_) := cell_of_heap m0 1
  have a2 : W.cell? ⟨s0, 2, none⟩ = some (.int .i64 T.way) := cell_of_heap m0 2
  have a3 : W.cell? ⟨s0, 3, none⟩ = some (.int .i64 T.step) := cell_of_heap m0 3
  have a4 : W.cell? ⟨s0, 4, none⟩ = some (.slice q T.prs.length d) := cell_of_heap m0 4
  have HE := Lib.hid hE
  have HCE := Lib.hid (fun y (h : Ext W y) => (⟨h.cell a0, h.cell a1, h.cell a2, h.cell a3, h.cell a4⟩ :
    y.cell? ⟨s0, 0, none⟩ = some (.slice p T.recs.length c) ∧ y.cell? ⟨s0, 1, none⟩ = some (.int .i64 T.at_) ∧ y.cell? ⟨s0, 2, none⟩ = some (.int .i64 T.way) ∧ y.cell? ⟨s0, 3, none⟩ = some (.int .i64 T.step) ∧ y.cell? ⟨s0, 4, none⟩ = some (.slice q T.prs.length d)))
  clear hW m0 hE hs0
  rcases hy with rfl | ⟨rfl, rfl⟩
  all_goals
    go_upto_region 2 with (fail)
    clear hy1 hy2
    go_wp2
    go_loopw [3, 60] (fun g i wr => ∃ k : Nat, k ≤ T.recs.length ∧ i = .int .i64 k ∧ g = .bool true ∧ Ext W wr) (fun _ i _ => T.recs.length - (intOf i).toNat)
    case atStart => exact ⟨0, Nat.zero_le _, rfl, rfl, Ext.refl _⟩
    case round =>
      obtain ⟨k, hk, rfl, rfl, hEX⟩ := hrel
      have HEX := Lib.hid hEX
      clear hEX a0 a1 a2 a3 a4
      by_cases hlt : k < T.recs.length
      · have hlt' : (k : Int) < (T.recs.length : Int) := by omega
        obtain ⟨b, o, rfl, hc0, hc1⟩ := HP.out.at2 k hlt
        have k0 := (HE.out.trans HEX.out).cell hc0
        have k1 := (HE.out.trans HEX.out).cell hc1
        have hrb := HVT.out.rc _ (List.getElem_mem hlt)
        obtain ⟨r1, hr1⟩ : ∃ x, x = T.recs[k].1 := ⟨_, rfl⟩
        obtain ⟨r2, hr2⟩ : ∃ x, x = T.recs[k].2 := ⟨_, rfl⟩
        rw [← hr1] at k0 hrb
        rw [← hr2] at k1 hrb
        obtain ⟨q1, q2, q3, q4⟩ := hrb
        clear hc0 hc1 hr1 hr2
        go_wp2
        go_roundw
        case rel => exact ⟨k + 1, by omega, by simp, rfl, HEX.out.alloc _⟩
        case measure => simp [intOf]; omega
      · obtain rfl : k = T.recs.length := by omega
        obtain ⟨a0, a1, a2, a3, a4⟩ := HCE.out wr HEX.out
        go_wp2
        go_loopw [3, 89] (fun g i wr => ∃ k : Nat, k ≤ T.prs.length ∧ i = .int .i64 k ∧ g = .bool true ∧ Ext W wr) (fun _ i _ => T.prs.length - (intOf i).toNat)
        case atStart => exact ⟨0, Nat.zero_le _, rfl, rfl, HEX.out⟩
        case round =>
          clear a0 a1 a2 a3 a4
          obtain ⟨k, hk, rfl, rfl, hEX⟩ := hrel
          have HEX2 := Lib.hid hEX
          obtain ⟨a0, a1, a2, a3, a4⟩ := HCE.out _ hEX
          clear hEX
          by_cases hlt2 : k < T.prs.length
          · have hlt' : (k : Int) < (T.prs.length : Int) := by omega
            obtain ⟨b, o, rfl, hc0, hc1⟩ := HQ.out.at2 k hlt2
            have k0 := (HE.out.trans HEX2.out).cell hc0
            have k1 := (HE.out.trans HEX2.out).cell hc1
            have hrb := HVT.out.pr _ (List.getElem_mem hlt2)
            obtain ⟨r1, hr1⟩ : ∃ x, x = T.prs[k].1 := ⟨_, rfl⟩
            obtain ⟨r2, hr2⟩ : ∃ x, x = T.prs[k].2 := ⟨_, rfl⟩
            rw [← hr1] at k0 hrb
            rw [← hr2] at k1 hrb
            obtain ⟨⟨q1, q2⟩, q3, q4⟩ := hrb
            have HI1 := Lib.hid (fun y (h : Ext w y) => pisSide02 T r1 _ y (HV.out y h) (by omega) q1 q2)
            have HI2 := Lib.hid (fun y => pisTime02 r2 y q3 q4)
            clear hc0 hc1 hr1 hr2
            go_upto_region 10 with (fail)
            obtain ⟨wo, hwo⟩ : ∃ wo, wo = wr.alloc (.cells #[.int .i64 r1, .int .i64 r2] 77) := ⟨_, rfl⟩
            obtain ⟨s7, hs7⟩ : ∃ s7, s7 = wr.heap.size := ⟨_, rfl⟩
            have hE7 : Ext W wo := by rw [hwo]; exact HEX2.out.alloc _
            have m7 : wo.heap[s7]? = some (.cells #[.int .i64 r1, .int .i64 r2] 77) := by rw [hwo, hs7]; exact heap_new _ _
            rw [← hs7, ← hwo]
            have HE7 := Lib.hid hE7
            have HM7 := Lib.hid m7
            obtain ⟨a0, a1, a2, a3, a4⟩ := HCE.out _ hE7
            have d0 := cell_of_heap m7 0
            have d1 := cell_of_heap m7 1
            clear hwo hs7 hE7 m7 k0 k1
            go_wp2_with (first
              | (go_at_call 39; refine (HI1.out _ (HE.out.trans HE7.out)).mono ?_; rintro e w8 ⟨rfl, hE8⟩; have d2 := cell_of_heap (heap_ext3 HM7.out hE8) 1)
              | (go_at_call 40; refine (HI2.out _).mono ?_; rintro e w9 ⟨rfl, hE9⟩))
            go_roundw
            case rel => exact ⟨k + 1, by omega, by simp, rfl, HE7.out.trans (hE8.trans hE9)⟩
            case measure => simp [intOf]; omega
          · obtain rfl : k = T.prs.length := by omega
            go_wp2
            go_ret
            exact RetE.fin (HE.out.trans HEX2.out) rfl

set_option maxRecDepth 20000 in
theorem plast02 (T : TrayD) (s : Int) (v : Value) (w : World) (hv : TyV w v T) (hl : T.recs.length ≤ 1000) (h0 : 0 ≤ s) (h1 : s < 2 * (T.recs.length : Int)) :
    Calls Tryd.prog 54 #[v, .int .i64 s] w (RetE (.int .i64 (lastC T.recs s)) w) := by
  obtain ⟨p, c, q, d, rfl, hp, hq⟩ := hv
  have hd : Int.tdiv s 2 = s / 2 := Int.tdiv_eq_ediv_of_nonneg h0
  have hm : Int.tmod s 2 = s % 2 := Int.tmod_eq_emod_of_nonneg h0
  obtain ⟨k, hk⟩ : ∃ k : Nat, s / 2 = k := ⟨(s / 2).toNat, by omega⟩
  have hlt : k < T.recs.length := by omega
  obtain ⟨b, o, rfl, hc0, hc1⟩ := hp.at2 k hlt
  have hg : T.recs.getD (Int.tdiv s 2).toNat (0, 0) = T.recs[k] := by rw [hd, hk, Int.toNat_natCast, List.getD_eq_getElem?_getD, List.getElem?_eq_getElem hlt]; rfl
  have HG := Lib.hid hg
  have hdk : Int.tdiv s 2 = (k : Int) := by rw [hd, hk]
  have hwk : IntKind.i64.wrap (k : Int) = (k : Int) := IntWalk.i64_in _ (by omega)
  have hlt' : (k : Int) < (T.recs.length : Int) := by omega
  obtain ⟨r1, hr1⟩ : ∃ x, x = T.recs[k].1 := ⟨_, rfl⟩
  obtain ⟨r2, hr2⟩ : ∃ x, x = T.recs[k].2 := ⟨_, rfl⟩
  rw [← hr1] at hc0
  rw [← hr2] at hc1
  have HR := Lib.hid (⟨hr1, hr2⟩ : r1 = T.recs[k].1 ∧ r2 = T.recs[k].2)
  obtain ⟨m, hmm⟩ : ∃ m, m = Int.tmod s 2 := ⟨_, rfl⟩
  have hm2 : m = 0 ∨ m = 1 := by omega
  have HDK := Lib.hid hdk
  have k0 := fun o => ((Ext.refl w).alloc o).cell hc0
  have k1 := fun o => ((Ext.refl w).alloc o).cell hc1
  clear hp hq hg hr1 hr2 hd hm hk
  rcases hm2 with rfl | rfl
  · have hmz : Int.tmod s 2 = 0 := hmm.symm
    have hwm : IntKind.i64.wrap 0 = 0 := IntWalk.i64_in _ (by omega)
    have HMZ := Lib.hid hmz
    clear hmm
    go_enter Tryd.func54, Tryd.ntmps54
    go_wp2
    go_ret
    exact RetE.fin ((Ext.refl w).alloc _) (by rw [show lastC T.recs s = r1 from by unfold lastC; rw [if_pos HMZ.out, HG.out, HR.out.1]]; rfl)
  · have hmz : Int.tmod s 2 = 1 := hmm.symm
    have hwm : IntKind.i64.wrap 1 = 1 := IntWalk.i64_in _ (by omega)
    have HMZ := Lib.hid hmz
    clear hmm
    go_enter Tryd.func54, Tryd.ntmps54
    go_wp2
    go_ret
    exact RetE.fin ((Ext.refl w).alloc _) (by rw [show lastC T.recs s = r2 from by unfold lastC; rw [if_neg (by rw [HMZ.out]; decide), HG.out, HR.out.2]]; rfl)
end Go.Proofs.YtppncdbhebgcaaaDoor
namespace Go.Proofs.YtppncdbhebgcaaaDoor
open Go.RowKit

/-- a world that grew, and whose one row grew -/
def GrB (r : Option Nat) (w w' : World) : Prop := World.grownBy w w' r
theorem GrB.ext {r : Option Nat} {w w' : World} (h : Ext w w') : GrB r w w' := ⟨h.os, h.tape, h.output, h.size, fun i hi _ => h.block i hi⟩
theorem GrB.refl (r : Option Nat) (w : World) : GrB r w w := GrB.ext (Ext.refl w)
theorem GrB.trans {r : Option Nat} {a b c : World} (h : GrB r a b) (h' : GrB r b c) : GrB r a c :=
  ⟨h'.os.trans h.os, h'.tape.trans h.tape, h'.output.trans h.output, Nat.le_trans h.size h'.size, fun k hk hr => (h'.block k (Nat.lt_of_lt_of_le hk h.size) hr).trans (h.block k hk hr)⟩
theorem GrB.keep {r : Option Nat} {w w' : World} (h : GrB r w w') {b : Nat} {o : Obj} (hm : w.heap[b]? = some o) (hr : some b ≠ r) : w'.heap[b]? = some o := (h.block b (Array.getElem?_eq_some_iff.1 hm).1 hr).trans hm
def boolVs (l : List Bool) : Array Value := (l.map Value.bool).toArray
structure TrP where
  pr : Option Addr
  cr : Nat
  pp : Option Addr
  cp : Nat
structure CarX where
  qq : Option Addr
  cq : Nat
  sd : Int
  uS : Value
  uP : Value
  st : Int
  en : Int
  nS : Nat
  vS : List Value
def carCells (T : TrayD) (P : TrP) (gp : Nat) (c : Car) (X : CarX) : Array Value :=
  #[.slice P.pr T.recs.length P.cr, .int .i64 T.at_, .int .i64 T.way, .int .i64 T.step, .slice P.pp T.prs.length P.cp, .slice X.qq c.queue.length X.cq, .slice (some ⟨gp, 0, none⟩) c.pins.length c.pins.length, .int .i64 c.now, .int .i64 c.pos, .int .i64 c.way, .int .i64 X.sd, X.uS, X.uP, .int .i64 X.st, .int .i64 X.en]
/-- a carriage, but for its rows that grow -/
structure CarB (w0 w : World) (b gp : Nat) (T : TrayD) (P : TrP) (c : Car) (X : CarX) : Prop where
  e : Ext w0 w
  m : w.heap[b]? = some (.cells (carCells T P gp c X) 101)
  q : PairsAt w X.qq c.queue
  qb : ∀ a, X.qq = some a → a.block < b ∧ a.block ≠ gp ∧ w0.heap.size ≤ a.block
  qc : c.queue.length ≤ X.cq
  p : w.heap[gp]? = some (.cells (boolVs c.pins) 4)
  hb : w0.heap.size ≤ gp
  hg : gp < b
structure CarM (w0 w : World) (b gp : Nat) (T : TrayD) (P : TrP) (c : Car) (X : CarX) (S : Nat) : Prop where
  B : CarB w0 w b gp T P c X
  s : w.ownsRow (b + 1) 112 4 X.uS X.nS X.vS
  pl : w.ownsRow (b + 1) 62 2 X.uP c.plays.length (pairVs c.plays)
  nS : X.nS ≤ S
theorem PairsAt.heap {w w' : World} {p : Option Addr} {l : List (Int × Int)} (h : PairsAt w p l) (hk : ∀ a, p = some a → w'.heap[a.block]? = w.heap[a.block]?) : PairsAt w' p l := by
  intro i hi
  obtain ⟨b, o, rfl, h1, h2⟩ := h i hi
  have e := hk _ rfl
  exact ⟨b, o, rfl, (World.cell?_of_block (a := ⟨b, o + i * 2, none⟩) e).trans h1, (World.cell?_of_block (a := ⟨b, o + i * 2 + 1, none⟩) e).trans h2⟩
theorem heap_off {w : World} {b o k : Nat} {v : Value} (h : k ≠ b) : (w.setCell ⟨b, o, none⟩ v).heap[k]? = w.heap[k]? := by
  cases hm : w.heap[k]? with
  | none =>
    have : w.heap.size ≤ k := by
      rcases Nat.lt_or_ge k w.heap.size with h' | h'
      · rw [Array.getElem?_eq_getElem h'] at hm; cases hm
      · exact h'
    rw [Array.getElem?_eq_none (by simp only [World.setCell, Array.size_modify]; exact this)]
  | some o' => exact heap_set_ne h hm
section
variable {w0 w w' : World} {b gp S : Nat} {T : TrayD} {P : TrP} {c c' : Car} {X X' : CarX}
theorem CarB.size (h : CarB w0 w b gp T P c X) : b < w.heap.size := (Array.getElem?_eq_some_iff.1 h.m).1
/-- what lies above the carriage grows -/
theorem CarB.grow {r : Option Nat} (h : CarB w0 w b gp T P c X) (hg : GrB r w w') (hr : ∀ k, r = some k → b < k) : CarB w0 w' b gp T P c X := by
  have hne : ∀ k, k ≤ b → some k ≠ r := fun k hk e => by have := hr k e.symm; omega
  have hs := h.size
  have h1 := h.hb
  have h2 := h.hg
  refine ⟨Below.grown h.e hg h.e.size (fun k hk => by have := hr k hk; omega), hg.keep h.m (hne b (Nat.le_refl _)), h.q.heap fun a ha => ?_, h.qb, h.qc, hg.keep h.p (hne gp (by omega)), h.hb, h.hg⟩
  have h3 := h.qb a ha
  exact hg.block _ (by omega) (hne _ (by omega))
theorem CarB.ext (h : CarB w0 w b gp T P c X) (hE : Ext w w') : CarB w0 w' b gp T P c X := h.grow (r := none) (GrB.ext hE) fun k hk => by cases hk
/-- a cell of the carriage is set -/
theorem CarB.setB (h : CarB w0 w b gp T P c X) {i : Nat} {v : Value} (hc : carCells T P gp c' X' = (carCells T P gp c X).setIfInBounds i v) (hq : PairsAt w X'.qq c'.queue) (hqb : ∀ a, X'.qq = some a → a.block < b ∧ a.block ≠ gp ∧ w0.heap.size ≤ a.block) (hqc : c'.queue.length ≤ X'.cq)
    (hp : c'.pins = c.pins) : CarB w0 (w.setCell ⟨b, i, none⟩ v) b gp T P c' X' := by
  have h1 := h.hb
  have h2 := h.hg
  refine ⟨Ext.setCell h.e (p := ⟨b, i, none⟩) (by show w0.heap.size ≤ b; omega) _, heap_set h.m hc, hq.heap fun a ha => heap_off (by have := hqb a ha; omega), hqb, hqc, ?_, h.hb, h.hg⟩
  rw [hp]
  exact heap_set_ne (by omega) h.p
theorem CarM.setB (h : CarM w0 w b gp T P c X S) {i : Nat} {v : Value} (hc : carCells T P gp c' X' = (carCells T P gp c X).setIfInBounds i v) (hq : PairsAt w X'.qq c'.queue) (hqb : ∀ a, X'.qq = some a → a.block < b ∧ a.block ≠ gp ∧ w0.heap.size ≤ a.block) (hqc : c'.queue.length ≤ X'.cq)
    (hp : c'.pins = c.pins) (hl : c'.plays = c.plays) (hu : X'.uS = X.uS ∧ X'.uP = X.uP ∧ X'.nS = X.nS ∧ X'.vS = X.vS) : CarM w0 (w.setCell ⟨b, i, none⟩ v) b gp T P c' X' S := by
  obtain ⟨u1, u2, u3, u4⟩ := hu
  refine ⟨h.B.setB hc hq hqb hqc hp, ?_, ?_, by rw [u3]; exact h.nS⟩
  · rw [u1, u3, u4]; exact ownsRow_off h.s (by omega)
  · rw [u2, hl]; exact ownsRow_off h.pl (by omega)
/-- a pin is set -/
theorem CarM.setP (h : CarM w0 w b gp T P c X S) {i : Nat} {v : Bool} (hi : c' = { c with pins := c.pins.set i v }) : CarM w0 (w.setCell ⟨gp, i, none⟩ (.bool v)) b gp T P c' X S := by
  subst hi
  have h1 := h.B.hb
  have h2 := h.B.hg
  have hc : carCells T P gp { c with pins := c.pins.set i v } X = carCells T P gp c X := by unfold carCells; simp
  refine ⟨⟨Ext.setCell h.B.e (p := ⟨gp, i, none⟩) h1 _, ?_, h.B.q.heap fun a ha => heap_off (by have := h.B.qb a ha; omega), h.B.qb, h.B.qc, ?_, h1, h2⟩, ownsRow_off h.s (by omega), ownsRow_off h.pl (by omega), h.nS⟩
  · rw [hc]; exact heap_set_ne (by omega) h.B.m
  · refine heap_set h.B.p ?_
    unfold boolVs
    simp [List.map_set]
theorem CarM.mono {S' : Nat} (h : CarM w0 w b gp T P c X S) (hS : S ≤ S') : CarM w0 w b gp T P c X S' := ⟨h.B, h.s, h.pl, Nat.le_trans h.nS hS⟩
theorem CarM.ext (h : CarM w0 w b gp T P c X S) (hE : Ext w w') : CarM w0 w' b gp T P c X S := ⟨h.B.ext hE, ownsRow_ext h.s hE, ownsRow_ext h.pl hE, h.nS⟩
end
/-- what a method of a carriage leaves -/
def RetC (w0 : World) (b gp : Nat) (T : TrayD) (P : TrP) (c : Car) (S : Nat) (v : Value) (e : Ending) (w' : World) : Prop := e = .returned v ∧ ∃ X, CarM w0 w' b gp T P c X S
/-- a slice of one element of its own -/
def OneN (B : Nat) (xs : List Value) (t : TypeId) (v : Value) (_ _ : Nat) (w : World) : Prop := ∃ g, v = .slice (some ⟨g, 0, none⟩) 1 1 ∧ B ≤ g ∧ w.heap[g]? = some (.cells xs.toArray t)
theorem OneN.mono {B : Nat} {xs : List Value} {t : TypeId} : ∀ v s u w w', Ext w w' → OneN B xs t v s u w → OneN B xs t v s u w' := fun _ _ _ _ _ hE ⟨g, h1, h2, h3⟩ => ⟨g, h1, h2, heap_ext3 h3 hE⟩
theorem OneN.grow {B : Nat} {xs : List Value} {t : TypeId} {r : Option Nat} (hr : ∀ k, r = some k → k < B) {w w' : World} (hg : GrB r w w') {v : Value} {s u : Nat} (h : OneN B xs t v s u w) : OneN B xs t v s u w' := by
  obtain ⟨g, h1, h2, h3⟩ := h
  exact ⟨g, h1, h2, hg.keep h3 fun e => by have := hr g e.symm; omega⟩
theorem one_news2 {w : World} {g : Nat} {xs : List Value} {t : TypeId} (h : w.heap[g]? = some (.cells xs.toArray t)) : ∀ (j : Nat) (u : Value), xs[j]? = some u → w.cell? ((⟨g, 0, none⟩ : Addr).add j) = some u := by
  intro j u hj
  have : w.cell? ⟨g, j, none⟩ = some u := by rw [cell_of_heap h]; simpa using hj
  by_cases h0 : j = 0
  · subst h0; exact this
  · simpa [Addr.add, h0] using this
/-- a row that grew -/
def RowG (B : Nat) (t : TypeId) (size n : Nat) (xs : List Value) (v : Value) (_ _ : Nat) (w : World) : Prop := ∃ g cap, v = .slice (some ⟨g, 0, none⟩) n cap ∧ w.ownsRow B t size v n xs
theorem RowG.mono {B : Nat} {t : TypeId} {size n : Nat} {xs : List Value} : ∀ v s u w w', Ext w w' → RowG B t size n xs v s u w → RowG B t size n xs v s u w' := fun _ _ _ _ _ hE ⟨g, c, h1, h2⟩ => ⟨g, c, h1, ownsRow_ext h2 hE⟩
theorem info_spell : (Tryd.prog.info? 112).map (fun i => (i.zero, i.size, i.bytes)) = some (some (.agg #[.int .i64 0, .int .i64 0, .int .i64 0, .int .i64 0]), 4, 32) := by kernel_rfl
theorem info_play : (Tryd.prog.info? 62).map (fun i => (i.zero, i.size, i.bytes)) = some (some (.agg #[.int .i64 0, .int .i64 0]), 2, 16) := by kernel_rfl
end Go.Proofs.YtppncdbhebgcaaaDoor
namespace Go.Proofs.YtppncdbhebgcaaaDoor
open Go.RowKit

theorem own_ne2 {w : World} {B B' size size' n n' : Nat} {v v' : Value} {e e' : TypeId} {xs xs' : List Value} (h : w.ownsRow B e size v n xs) (h' : w.ownsRow B' e' size' v' n' xs') (he : e ≠ e') : ∀ g, v.ownBlock = some g → ¬v'.ownBlock = some g := by
  intro g hg hg'
  rcases h.2 with ⟨hv, -⟩ | ⟨g1, cap, cur, hv, -, hm, -⟩
  · rw [hv] at hg; cases hg
  · rcases h'.2 with ⟨hv', -⟩ | ⟨g2, cap', cur', hv', -, hm', -⟩
    · rw [hv'] at hg'; cases hg'
    · rw [hv] at hg
      rw [hv'] at hg'
      cases hg
      cases hg'
      rw [hm] at hm'
      injection hm' with h1
      injection h1 with _ h2
      exact he h2

set_option maxRecDepth 20000 in
set_option maxHeartbeats 6400000 in
theorem mark02 {w0 w : World} {b gp S : Nat} {T : TrayD} {P : TrP} {c : Car} {X : CarX} (h : CarM w0 w b gp T P c X S) (hS : S ≤ 1000000) (side : Int) :
    Calls Tryd.prog 44 #[.pointer (some ⟨b, 0, none⟩), .int .i64 side] w (RetC w0 b gp T P c (S + 1) (.tuple #[])) := by
  have HM := Lib.hid h
  have c10 : w.cell? ⟨b, 10, none⟩ = some (.int .i64 X.sd) := cell_of_heap h.B.m 10
  have f10 := cell_frozen h.B.m 10
  obtain ⟨i0, hi, hz0, hz1, hz2⟩ := info_parts info_spell
  have HI0 := Lib.hid (⟨hi, hz0, hz1, hz2⟩ : _ ∧ _ ∧ _ ∧ _)
  have hns := h.nS
  clear h hi hz0 hz1 hz2
  go_enter Tryd.func44, Tryd.ntmps44
  go_upto_region 1 with (fail)
  obtain ⟨W1, hW1⟩ : ∃ W1, W1 = w.setCell ⟨b, 10, none⟩ (.int .i64 side) := ⟨_, rfl⟩
  have hM1 : CarM w0 W1 b gp T P c { X with sd := side } S := by rw [hW1]; exact HM.out.setB (i := 10) rfl HM.out.B.q HM.out.B.qb HM.out.B.qc rfl rfl ⟨rfl, rfl, rfl, rfl⟩
  rw [← hW1]
  have HM1 := Lib.hid hM1
  have hb1 := hM1.B.size
  have HRB := Lib.hid (fun k (hk : X.uS.ownBlock = some k) => (hM1.s.lt k hk).2)
  have HRL := Lib.hid (fun k (hk : X.uS.ownBlock = some k) => (hM1.s.lt k hk).1)
  have HKC := Lib.hid (fun y (hy : GrB X.uS.ownBlock W1 y) => (by
    have h2 := (hM1.B.grow hy fun k hk => by have := (hM1.s.lt k hk).1; omega).m
    exact ⟨cell_of_heap h2 7, cell_of_heap h2 8, cell_of_heap h2 9, cell_of_heap h2 10, cell_of_heap h2 11, cell_frozen h2 11⟩ :
    y.cell? ⟨b, 7, none⟩ = some (.int .i64 c.now) ∧ y.cell? ⟨b, 8, none⟩ = some (.int .i64 c.pos) ∧ y.cell? ⟨b, 9, none⟩ = some (.int .i64 c.way) ∧ y.cell? ⟨b, 10, none⟩ = some (.int .i64 side) ∧ y.cell? ⟨b, 11, none⟩ = some X.uS ∧ y.frozen? ⟨b, 11, none⟩ = false))
  clear hW1 hM1 c10 f10
  refine wp_region_facts2 17 [[], [], [1], [2], [3], [4], [], [6], [7], [8], [], [10], [11], [12], [9, 13], [14], [5, 15]] [0, 16] 16 [] Ext ((GrB X.uS.ownBlock)) (FL [Is (.pointer (some ⟨b, 0, none⟩)), Is (.pointer (some ⟨b, 0, none⟩)), Is (.pointer (some ⟨b, 0, none⟩)), Is (.pointer (some ⟨b, 11, none⟩)), Is (.pointer (some ⟨b, 11, none⟩)), Is (X.uS), Is (.pointer (some ⟨b, 0, none⟩)), Is (.pointer (some ⟨b, 0, none⟩)), Is (.pointer (some ⟨b, 8, none⟩)), Is (.agg #[.int .i64 c.pos, .int .i64 c.way, .int .i64 side]), Is (.pointer (some ⟨b, 0, none⟩)), Is (.pointer (some ⟨b, 0, none⟩)), Is (.pointer (some ⟨b, 7, none⟩)), Is (.int .i64 c.now), Is (.agg #[.int .i64 c.pos, .int .i64 c.way, .int .i64 side, .int .i64 c.now]), OneN W1.heap.size [.int .i64 c.pos, .int .i64 c.way, .int .i64 side, .int .i64 c.now] 112, RowG (b + 1) 112 4 (X.nS + 1) (X.vS ++ [.int .i64 c.pos, .int .i64 c.way, .int .i64 side, .int .i64 c.now])]) (by kernel_rfl) (by kernel_rfl) (by kernel_rfl) (fun _ _ => GrB.ext) (fun _ _ _ => Ext.trans) Ext.refl (GrB.refl _) (fun _ _ _ => GrB.trans) (fun _ _ h => h.size) ?_ ?_ ⟨?_, ?_, ?_, ?_, ?_, ?_, ?_, ?_, ?_, ?_, ?_, ?_, ?_, ?_, ?_, ?_, ?_, trivial⟩ ?_
  · exact FL.mono ⟨Is.mono, Is.mono, Is.mono, Is.mono, Is.mono, Is.mono, Is.mono, Is.mono, Is.mono, Is.mono, Is.mono, Is.mono, Is.mono, Is.mono, Is.mono, OneN.mono, RowG.mono, trivial⟩
  · intro j v s t w w' hj hr
    match j, hj with
    | 0, _ => exact fun h => h
    | 1, _ => exact fun h => h
    | 2, _ => exact fun h => h
    | 3, _ => exact fun h => h
    | 4, _ => exact fun h => h
    | 5, _ => exact fun h => h
    | 6, _ => exact fun h => h
    | 7, _ => exact fun h => h
    | 8, _ => exact fun h => h
    | 9, _ => exact fun h => h
    | 10, _ => exact fun h => h
    | 11, _ => exact fun h => h
    | 12, _ => exact fun h => h
    | 13, _ => exact fun h => h
    | 14, _ => exact fun h => h
    | 15, _ => exact fun h => OneN.grow (s := s) (u := t) HRB.out hr h
    | 16, hj => exact absurd rfl hj
    | n + 17, _ => exact fun h => h
  · refine opF2_step ?_
    intro ys l0 h0 w' hr hs hf K hK
    clear hf
    clear hs
    simp only [fill, Act.put, dstO, List.take_succ_cons, List.take_zero, List.setIfInBounds_toArray, List.set_cons_zero, List.set_cons_succ, List.getElem?_cons_zero, Nat.zero_add, Nat.reduceAdd] at hK ⊢
    refine OpB.mk' ?_
    go_simp
    exact hK.out _ _ rfl (fun h => by cases h) (fun _ => Ext.refl _)
  · refine opF2_step ?_
    intro ys l0 h0 w' hr hs hf K hK
    clear hf
    clear hs
    simp only [fill, Act.put, dstO, List.take_succ_cons, List.take_zero, List.setIfInBounds_toArray, List.set_cons_zero, List.set_cons_succ, List.getElem?_cons_zero, List.getElem?_cons_succ, Nat.zero_add, Nat.reduceAdd] at hK ⊢
    refine OpB.mk' ?_
    go_simp
    exact hK.out _ _ rfl (fun h => by cases h) (fun _ => Ext.refl _)
  · refine opF2_step ?_
    intro ys l0 h0 w' hr hs hf K hK
    obtain ⟨f0, -⟩ := hf
    have e0 : ys 1 = _ := f0
    clear hs
    simp only [fill, Act.put, dstO, List.take_succ_cons, List.take_zero, List.setIfInBounds_toArray, List.set_cons_zero, List.set_cons_succ, List.getElem?_cons_zero, List.getElem?_cons_succ, Nat.zero_add, Nat.reduceAdd] at hK ⊢
    simp only [e0] at hK ⊢
    clear e0 f0
    refine OpB.mk' ?_
    go_simp
    exact hK.out _ _ rfl (fun h => by cases h) (fun _ => Ext.refl _)
  · refine opF2_step ?_
    intro ys l0 h0 w' hr hs hf K hK
    obtain ⟨f0, -⟩ := hf
    have e0 : ys 2 = _ := f0
    clear hs
    simp only [fill, Act.put, dstO, List.take_succ_cons, List.take_zero, List.setIfInBounds_toArray, List.set_cons_zero, List.set_cons_succ, List.getElem?_cons_zero, List.getElem?_cons_succ, Nat.zero_add, Nat.reduceAdd] at hK ⊢
    simp only [e0] at hK ⊢
    clear e0 f0
    refine OpB.mk' ?_
    go_simp
    exact hK.out _ _ rfl (fun h => by cases h) (fun _ => Ext.refl _)
  · refine opF2_step ?_
    intro ys l0 h0 w' hr hs hf K hK
    obtain ⟨f0, -⟩ := hf
    have e0 : ys 3 = _ := f0
    clear hs
    simp only [fill, Act.put, dstO, List.take_succ_cons, List.take_zero, List.setIfInBounds_toArray, List.set_cons_zero, List.set_cons_succ, List.getElem?_cons_zero, List.getElem?_cons_succ, Nat.zero_add, Nat.reduceAdd] at hK ⊢
    simp only [e0] at hK ⊢
    clear e0 f0
    refine OpB.mk' ?_
    go_simp
    exact hK.out _ _ rfl (fun h => by cases h) (fun _ => Ext.refl _)
  · refine opF2_step ?_
    intro ys l0 h0 w' hr hs hf K hK
    obtain ⟨f0, -⟩ := hf
    have e0 : ys 4 = _ := f0
    obtain ⟨j7, j8, j9, j10, j11, j12⟩ := HKC.out w' ((GrB.ext ((Ext.refl W1).drew)).trans hr)
    clear hs
    simp only [fill, Act.put, dstO, List.take_succ_cons, List.take_zero, List.setIfInBounds_toArray, List.set_cons_zero, List.set_cons_succ, List.getElem?_cons_zero, List.getElem?_cons_succ, Nat.zero_add, Nat.reduceAdd] at hK ⊢
    simp only [e0] at hK ⊢
    clear e0 f0
    refine OpB.mk' ?_
    go_simp
    exact hK.out _ _ rfl (fun h => by cases h) (fun _ => Ext.refl _)
  · refine opF2_step ?_
    intro ys l0 h0 w' hr hs hf K hK
    clear hf
    clear hs
    simp only [fill, Act.put, dstO, List.take_succ_cons, List.take_zero, List.setIfInBounds_toArray, List.set_cons_zero, List.set_cons_succ, List.getElem?_cons_zero, List.getElem?_cons_succ, Nat.zero_add, Nat.reduceAdd] at hK ⊢
    refine OpB.mk' ?_
    go_simp
    exact hK.out _ _ rfl (fun h => by cases h) (fun _ => Ext.refl _)
  · refine opF2_step ?_
    intro ys l0 h0 w' hr hs hf K hK
    obtain ⟨f0, -⟩ := hf
    have e0 : ys 6 = _ := f0
    clear hs
    simp only [fill, Act.put, dstO, List.take_succ_cons, List.take_zero, List.setIfInBounds_toArray, List.set_cons_zero, List.set_cons_succ, List.getElem?_cons_zero, List.getElem?_cons_succ, Nat.zero_add, Nat.reduceAdd] at hK ⊢
    simp only [e0] at hK ⊢
    clear e0 f0
    refine OpB.mk' ?_
    go_simp
    exact hK.out _ _ rfl (fun h => by cases h) (fun _ => Ext.refl _)
  · refine opF2_step ?_
    intro ys l0 h0 w' hr hs hf K hK
    obtain ⟨f0, -⟩ := hf
    have e0 : ys 7 = _ := f0
    clear hs
    simp only [fill, Act.put, dstO, List.take_succ_cons, List.take_zero, List.setIfInBounds_toArray, List.set_cons_zero, List.set_cons_succ, List.getElem?_cons_zero, List.getElem?_cons_succ, Nat.zero_add, Nat.reduceAdd] at hK ⊢
    simp only [e0] at hK ⊢
    clear e0 f0
    refine OpB.mk' ?_
    go_simp
    exact hK.out _ _ rfl (fun h => by cases h) (fun _ => Ext.refl _)
  · refine opF2_step ?_
    intro ys l0 h0 w' hr hs hf K hK
    obtain ⟨f0, -⟩ := hf
    have e0 : ys 8 = _ := f0
    obtain ⟨j7, j8, j9, j10, j11, j12⟩ := HKC.out w' ((GrB.ext ((Ext.refl W1).drew)).trans hr)
    clear hs
    simp only [fill, Act.put, dstO, List.take_succ_cons, List.take_zero, List.setIfInBounds_toArray, List.set_cons_zero, List.set_cons_succ, List.getElem?_cons_zero, List.getElem?_cons_succ, Nat.zero_add, Nat.reduceAdd] at hK ⊢
    simp only [e0] at hK ⊢
    clear e0 f0
    refine OpB.mk' ?_
    go_simp
    exact hK.out _ _ rfl (fun h => by cases h) (fun _ => Ext.refl _)
  · refine opF2_step ?_
    intro ys l0 h0 w' hr hs hf K hK
    clear hf
    clear hs
    simp only [fill, Act.put, dstO, List.take_succ_cons, List.take_zero, List.setIfInBounds_toArray, List.set_cons_zero, List.set_cons_succ, List.getElem?_cons_zero, List.getElem?_cons_succ, Nat.zero_add, Nat.reduceAdd] at hK ⊢
    refine OpB.mk' ?_
    go_simp
    exact hK.out _ _ rfl (fun h => by cases h) (fun _ => Ext.refl _)
  · refine opF2_step ?_
    intro ys l0 h0 w' hr hs hf K hK
    obtain ⟨f0, -⟩ := hf
    have e0 : ys 10 = _ := f0
    clear hs
    simp only [fill, Act.put, dstO, List.take_succ_cons, List.take_zero, List.setIfInBounds_toArray, List.set_cons_zero, List.set_cons_succ, List.getElem?_cons_zero, List.getElem?_cons_succ, Nat.zero_add, Nat.reduceAdd] at hK ⊢
    simp only [e0] at hK ⊢
    clear e0 f0
    refine OpB.mk' ?_
    go_simp
    exact hK.out _ _ rfl (fun h => by cases h) (fun _ => Ext.refl _)
  · refine opF2_step ?_
    intro ys l0 h0 w' hr hs hf K hK
    obtain ⟨f0, -⟩ := hf
    have e0 : ys 11 = _ := f0
    clear hs
    simp only [fill, Act.put, dstO, List.take_succ_cons, List.take_zero, List.setIfInBounds_toArray, List.set_cons_zero, List.set_cons_succ, List.getElem?_cons_zero, List.getElem?_cons_succ, Nat.zero_add, Nat.reduceAdd] at hK ⊢
    simp only [e0] at hK ⊢
    clear e0 f0
    refine OpB.mk' ?_
    go_simp
    exact hK.out _ _ rfl (fun h => by cases h) (fun _ => Ext.refl _)
  · refine opF2_step ?_
    intro ys l0 h0 w' hr hs hf K hK
    obtain ⟨f0, -⟩ := hf
    have e0 : ys 12 = _ := f0
    obtain ⟨j7, j8, j9, j10, j11, j12⟩ := HKC.out w' ((GrB.ext ((Ext.refl W1).drew)).trans hr)
    clear hs
    simp only [fill, Act.put, dstO, List.take_succ_cons, List.take_zero, List.setIfInBounds_toArray, List.set_cons_zero, List.set_cons_succ, List.getElem?_cons_zero, List.getElem?_cons_succ, Nat.zero_add, Nat.reduceAdd] at hK ⊢
    simp only [e0] at hK ⊢
    clear e0 f0
    refine OpB.mk' ?_
    go_simp
    exact hK.out _ _ rfl (fun h => by cases h) (fun _ => Ext.refl _)
  · refine opF2_step ?_
    intro ys l0 h0 w' hr hs hf K hK
    obtain ⟨f0, f1, -⟩ := hf
    have e0 : ys 9 = _ := f0
    have e1 : ys 13 = _ := f1
    clear hs
    simp only [fill, Act.put, dstO, List.take_succ_cons, List.take_zero, List.setIfInBounds_toArray, List.set_cons_zero, List.set_cons_succ, List.getElem?_cons_zero, List.getElem?_cons_succ, Nat.zero_add, Nat.reduceAdd] at hK ⊢
    simp only [e0, e1] at hK ⊢
    clear e0 e1 f0 f1
    refine OpB.mk' ?_
    go_simp
    exact hK.out _ _ rfl (fun h => by cases h) (fun _ => Ext.refl _)
  · refine opF2_step ?_
    intro ys l0 h0 w' hr hs hf K hK
    obtain ⟨f0, -⟩ := hf
    have e0 : ys 14 = _ := f0
    clear hs
    simp only [fill, Act.put, dstO, List.take_succ_cons, List.take_zero, List.setIfInBounds_toArray, List.set_cons_zero, List.set_cons_succ, List.getElem?_cons_zero, List.getElem?_cons_succ, Nat.zero_add, Nat.reduceAdd] at hK ⊢
    simp only [e0] at hK ⊢
    clear e0 f0
    refine OpB.mk' ?_
    go_simp
    exact hK.out _ _ ⟨_, rfl, by have := hr.size; exact this, heap_new _ _⟩ (fun h => by cases h) (fun _ => Ext.alloc (Ext.refl _) _)
  · refine opF2_step ?_
    intro ys l0 h0 w' hr hs hf K hK
    obtain ⟨f0, f1, -⟩ := hf
    have e0 : ys 5 = _ := f0
    obtain ⟨g0, e1, hB0, hg2⟩ := f1
    have hE0 := hs (Or.inl rfl)
    clear hs
    simp only [fill, Act.put, dstO, List.take_succ_cons, List.take_zero, List.setIfInBounds_toArray, List.set_cons_zero, List.set_cons_succ, List.getElem?_cons_zero, List.getElem?_cons_succ, Nat.zero_add, Nat.reduceAdd] at hK ⊢
    simp only [e0, e1] at hK ⊢
    clear e0 e1 f0
    refine OpB.mkG rfl ?_
    refine wp_append_lies _ (.tmp 14) (.tmp 24) 79 rfl (b + 1) 112 i0 _ 4 32 Tryd.underlying79 HI0.out.1 HI0.out.2.1 HI0.out.2.2.1 HI0.out.2.2.2 rfl (by decide) _ X.nS _ rfl (ownsRow_ext HM1.out.s ((Ext.refl _).drew.trans hE0)) ⟨g0, 0, none⟩ 1 1 [.int .i64 c.pos, .int .i64 c.way, .int .i64 side, .int .i64 c.now] rfl rfl (one_news2 hg2) (by intro u hu; simp at hu; rcases hu with rfl | rfl | rfl | rfl <;> rfl) (by decide) (by unfold maxLen; omega) (by omega) (by have := hE0.size; have : (W1.drew).heap.size = W1.heap.size := rfl; omega) _ rfl ?_
    intro g4 cap4 w4 ho4 hg4 _ _
    exact hK.out _ _ ⟨g4, cap4, rfl, ho4⟩ (fun _ => hg4) (fun h => absurd rfl h)
  intro ys l0 h0 w2 hr hf hsp
  obtain ⟨f0, f16, -⟩ := hf
  have e0 : ys 0 = _ := f0
  obtain ⟨g4, cap4, e16, ho4⟩ := f16
  rw [e16] at ho4
  simp only [fill, Act.put, List.take_succ_cons, List.take_zero, List.setIfInBounds_toArray, List.set_cons_zero, List.set_cons_succ, Nat.zero_add, Nat.reduceAdd, List.drop_succ_cons, List.drop_zero]
  rw [e0]
  clear e0 f0
  rw [e16]
  clear hsp
  have hG := (GrB.ext ((Ext.refl W1).drew)).trans hr
  obtain ⟨-, -, -, -, j11, j12⟩ := HKC.out w2 hG
  have HG := Lib.hid hG
  have HO4 := Lib.hid ho4
  clear hr hG ho4 e16 HKC
  go_wp2
  (try simp only [Exit.inBlock, Exit.then])
  refine bodyPost_ret (results_none rfl _ _ _) rfl ?_
  have hB2 := HM1.out.B.grow HG.out (fun k hk => by have := HRL.out k hk; omega)
  refine ⟨rfl, { X with sd := side, uS := .slice (some ⟨g4, 0, none⟩) (X.nS + 1) cap4, nS := X.nS + 1, vS := X.vS ++ [.int .i64 c.pos, .int .i64 c.way, .int .i64 side, .int .i64 c.now] }, hB2.setB (i := 11) rfl hB2.q hB2.qb hB2.qc rfl, ownsRow_off HO4.out (by omega), ownsRow_off (ownsRow_fr HM1.out.pl (grown_fr HG.out) fun g hg => fun e => own_ne2 HM1.out.pl HM1.out.s (by decide) g hg e) (by omega), by simp only; omega⟩
end Go.Proofs.YtppncdbhebgcaaaDoor
namespace Go.Proofs.YtppncdbhebgcaaaDoor
open Go.RowKit

set_option maxRecDepth 20000 in
set_option maxHeartbeats 6400000 in
theorem next02 {w0 w : World} {b gp S N : Nat} {T : TrayD} {P : TrP} {c : Car} {X : CarX} (h : CarM w0 w b gp T P c X S) (hS : S ≤ 1000000) (hT : ValidY T) (hO : CarOK T.recs.length N c) (hn0 : 0 ≤ c.now) (hn1 : c.now ≤ 1000000000) :
    Calls Tryd.prog 55 #[.pointer (some ⟨b, 0, none⟩)] w (RetC w0 b gp T P (nextC T.recs.length T.step c) (S + 1) (.tuple #[])) := by
  have HM := Lib.hid h
  have hp0 := hO.p0
  have hpn := hO.pn
  have hn6 := hT.n6
  have hs0 := hT.s0
  have hs1 := hT.s1
  have hwy := hO.wy
  have hw1 : IntKind.i64.wrap (c.pos + c.way) = c.pos + c.way := IntWalk.i64_in _ (by omega)
  have hw2 : IntKind.i64.wrap (c.now + T.step) = c.now + T.step := IntWalk.i64_in _ (by omega)
  have hw3 : IntKind.i64.wrap (-c.way) = -c.way := IntWalk.i64_in _ (by omega)
  have HMK := Lib.hid (fun (w1 : World) (c1 : Car) (X1 : CarX) (h1 : CarM w0 w1 b gp T P c1 X1 S) => mark02 h1 hS (-1))
  have c0 := ExtW.cell (v := .slice P.pr T.recs.length P.cr) (cell_of_heap h.B.m 0)
  have c8 := ExtW.cell (v := .int .i64 c.pos) (cell_of_heap h.B.m 8)
  have c9 := ExtW.cell (v := .int .i64 c.way) (cell_of_heap h.B.m 9)
  clear hT hO hwy h
  go_enter Tryd.func55, Tryd.ntmps55
  obtain ⟨y0, hy0⟩ := ExtW.of (Ext.refl w)
  conv => arg 5; rw [hy0]
  clear hy0
  go_upto_region 0 with (fail)
  refine wp_region_extW (by kernel_rfl) (by kernel_rfl) ?_
  repeat (go_big_quiet_step (fail))
  refine wpQuiet_nil ?_
  rintro _ ⟨x1, rfl⟩
  have HM1 := Lib.hid (HM.out.ext x1.h)
  obtain ⟨W1, hW1⟩ : ∃ W1, W1 = x1.w := ⟨_, rfl⟩
  rw [← hW1] at HM1 ⊢
  have d0 : W1.cell? ⟨b, 0, none⟩ = some (.slice P.pr T.recs.length P.cr) := cell_of_heap HM1.out.B.m 0
  obtain ⟨np, hnp⟩ : ∃ np, np = c.pos + c.way := ⟨_, rfl⟩
  rw [← hnp]
  clear hW1 c0 c8 c9
  by_cases hc : 0 ≤ np ∧ np < (T.recs.length : Int)
  · obtain ⟨q0, q1⟩ := hc
    have HNC := Lib.hid (show nextC T.recs.length T.step c = { c with pos := np, now := c.now + T.step } from by unfold nextC; rw [← hnp, if_pos ⟨q0, q1⟩])
    have c8 : W1.cell? ⟨b, 8, none⟩ = some (.int .i64 c.pos) := cell_of_heap HM1.out.B.m 8
    have f8 := cell_frozen HM1.out.B.m 8
    clear hnp
    go_upto_region 3 with (fail)
    obtain ⟨W2, hW2⟩ : ∃ W2, W2 = W1.setCell ⟨b, 8, none⟩ (.int .i64 np) := ⟨_, rfl⟩
    have hM2 : CarM w0 W2 b gp T P { c with pos := np } X S := by rw [hW2]; exact HM1.out.setB (i := 8) rfl HM1.out.B.q HM1.out.B.qb HM1.out.B.qc rfl rfl ⟨rfl, rfl, rfl, rfl⟩
    rw [← hW2]
    have HM2 := Lib.hid hM2
    have HKC := Lib.hid (fun y (h : Ext W2 y) => (⟨cell_of_heap (hM2.ext h).B.m 3, cell_of_heap (hM2.ext h).B.m 7⟩ : y.cell? ⟨b, 3, none⟩ = some (.int .i64 T.step) ∧ y.cell? ⟨b, 7, none⟩ = some (.int .i64 c.now)))
    clear hW2 hM2 d0 c8 f8
    refine wp_region_facts 10 [[], [0], [1], [2], [], [4], [5], [6], [7], [3, 8]] [0, 9] Ext (FL [Is (.pointer (some ⟨b, 0, none⟩)), Is (.pointer (some ⟨b, 0, none⟩)), Is (.pointer (some ⟨b, 7, none⟩)), Is (.int .i64 c.now), Is (.pointer (some ⟨b, 0, none⟩)), Is (.pointer (some ⟨b, 0, none⟩)), Is (.pointer (some ⟨b, 0, none⟩)), Is (.pointer (some ⟨b, 3, none⟩)), Is (.int .i64 T.step), Is (.int .i64 (c.now + T.step))]) (by kernel_rfl) (by kernel_rfl) Ext.refl (fun _ _ _ => Ext.trans) (fun _ _ => Ext.size) (FL.mono ⟨Is.mono, Is.mono, Is.mono, Is.mono, Is.mono, Is.mono, Is.mono, Is.mono, Is.mono, Is.mono, trivial⟩) ⟨?_, ?_, ?_, ?_, ?_, ?_, ?_, ?_, ?_, ?_, trivial⟩ ?_
    · refine opF_step ?_
      intro ys l0 h0 w' hr hf K hK
      clear hf
      simp only [fill, Act.put, dstO, List.take_succ_cons, List.take_zero, List.setIfInBounds_toArray, List.set_cons_zero, List.set_cons_succ, List.getElem?_cons_zero, Nat.zero_add, Nat.reduceAdd] at hK ⊢
      refine OpB.mk' ?_
      go_simp
      exact hK.out _ _ rfl (Ext.refl _)
    · refine opF_step ?_
      intro ys l0 h0 w' hr hf K hK
      obtain ⟨f0, -⟩ := hf
      have e0 : ys 0 = _ := f0
      simp only [fill, Act.put, dstO, List.take_succ_cons, List.take_zero, List.setIfInBounds_toArray, List.set_cons_zero, List.set_cons_succ, List.getElem?_cons_zero, List.getElem?_cons_succ, Nat.zero_add, Nat.reduceAdd] at hK ⊢
      simp only [e0] at hK ⊢
      clear e0 f0
      refine OpB.mk' ?_
      go_simp
      exact hK.out _ _ rfl (Ext.refl _)
    · refine opF_step ?_
      intro ys l0 h0 w' hr hf K hK
      obtain ⟨f0, -⟩ := hf
      have e0 : ys 1 = _ := f0
      simp only [fill, Act.put, dstO, List.take_succ_cons, List.take_zero, List.setIfInBounds_toArray, List.set_cons_zero, List.set_cons_succ, List.getElem?_cons_zero, List.getElem?_cons_succ, Nat.zero_add, Nat.reduceAdd] at hK ⊢
      simp only [e0] at hK ⊢
      clear e0 f0
      refine OpB.mk' ?_
      go_simp
      exact hK.out _ _ rfl (Ext.refl _)
    · refine opF_step ?_
      intro ys l0 h0 w' hr hf K hK
      obtain ⟨f0, -⟩ := hf
      have e0 : ys 2 = _ := f0
      obtain ⟨j3, j7⟩ := HKC.out w' ((Ext.refl W2).drew.trans hr)
      simp only [fill, Act.put, dstO, List.take_succ_cons, List.take_zero, List.setIfInBounds_toArray, List.set_cons_zero, List.set_cons_succ, List.getElem?_cons_zero, List.getElem?_cons_succ, Nat.zero_add, Nat.reduceAdd] at hK ⊢
      simp only [e0] at hK ⊢
      clear e0 f0
      refine OpB.mk' ?_
      go_simp
      exact hK.out _ _ rfl (Ext.refl _)
    · refine opF_step ?_
      intro ys l0 h0 w' hr hf K hK
      clear hf
      simp only [fill, Act.put, dstO, List.take_succ_cons, List.take_zero, List.setIfInBounds_toArray, List.set_cons_zero, List.set_cons_succ, List.getElem?_cons_zero, List.getElem?_cons_succ, Nat.zero_add, Nat.reduceAdd] at hK ⊢
      refine OpB.mk' ?_
      go_simp
      exact hK.out _ _ rfl (Ext.refl _)
    · refine opF_step ?_
      intro ys l0 h0 w' hr hf K hK
      obtain ⟨f0, -⟩ := hf
      have e0 : ys 4 = _ := f0
      simp only [fill, Act.put, dstO, List.take_succ_cons, List.take_zero, List.setIfInBounds_toArray, List.set_cons_zero, List.set_cons_succ, List.getElem?_cons_zero, List.getElem?_cons_succ, Nat.zero_add, Nat.reduceAdd] at hK ⊢
      simp only [e0] at hK ⊢
      clear e0 f0
      refine OpB.mk' ?_
      go_simp
      exact hK.out _ _ rfl (Ext.refl _)
    · refine opF_step ?_
      intro ys l0 h0 w' hr hf K hK
      obtain ⟨f0, -⟩ := hf
      have e0 : ys 5 = _ := f0
      simp only [fill, Act.put, dstO, List.take_succ_cons, List.take_zero, List.setIfInBounds_toArray, List.set_cons_zero, List.set_cons_succ, List.getElem?_cons_zero, List.getElem?_cons_succ, Nat.zero_add, Nat.reduceAdd] at hK ⊢
      simp only [e0] at hK ⊢
      clear e0 f0
      refine OpB.mk' ?_
      go_simp
      exact hK.out _ _ rfl (Ext.refl _)
    · refine opF_step ?_
      intro ys l0 h0 w' hr hf K hK
      obtain ⟨f0, -⟩ := hf
      have e0 : ys 6 = _ := f0
      simp only [fill, Act.put, dstO, List.take_succ_cons, List.take_zero, List.setIfInBounds_toArray, List.set_cons_zero, List.set_cons_succ, List.getElem?_cons_zero, List.getElem?_cons_succ, Nat.zero_add, Nat.reduceAdd] at hK ⊢
      simp only [e0] at hK ⊢
      clear e0 f0
      refine OpB.mk' ?_
      go_simp
      exact hK.out _ _ rfl (Ext.refl _)
    · refine opF_step ?_
      intro ys l0 h0 w' hr hf K hK
      obtain ⟨f0, -⟩ := hf
      have e0 : ys 7 = _ := f0
      obtain ⟨j3, j7⟩ := HKC.out w' ((Ext.refl W2).drew.trans hr)
      simp only [fill, Act.put, dstO, List.take_succ_cons, List.take_zero, List.setIfInBounds_toArray, List.set_cons_zero, List.set_cons_succ, List.getElem?_cons_zero, List.getElem?_cons_succ, Nat.zero_add, Nat.reduceAdd] at hK ⊢
      simp only [e0] at hK ⊢
      clear e0 f0
      refine OpB.mk' ?_
      go_simp
      exact hK.out _ _ rfl (Ext.refl _)
    · refine opF_step ?_
      intro ys l0 h0 w' hr hf K hK
      obtain ⟨f0, f1, -⟩ := hf
      have e0 : ys 3 = _ := f0
      have e1 : ys 8 = _ := f1
      simp only [fill, Act.put, dstO, List.take_succ_cons, List.take_zero, List.setIfInBounds_toArray, List.set_cons_zero, List.set_cons_succ, List.getElem?_cons_zero, List.getElem?_cons_succ, Nat.zero_add, Nat.reduceAdd] at hK ⊢
      simp only [e0, e1] at hK ⊢
      clear e0 e1 f0 f1
      refine OpB.mk' ?_
      go_simp
      exact hK.out _ _ rfl (Ext.refl _)
    intro ys l0 h0 w2 hr hf hsp
    obtain ⟨f0, f9, -⟩ := hf
    have e0 : ys 0 = _ := f0
    have e9 : ys 9 = _ := f9
    simp only [fill, Act.put, List.take_succ_cons, List.take_zero, List.setIfInBounds_toArray, List.set_cons_zero, List.set_cons_succ, Nat.zero_add, Nat.reduceAdd, List.drop_succ_cons, List.drop_zero]
    rw [e0, e9]
    clear e0 f0 e9 f9
    clear hsp
    have HM3 := Lib.hid (HM2.out.ext ((Ext.refl W2).drew.trans hr))
    clear hr HKC
    have c7 : w2.cell? ⟨b, 7, none⟩ = some (.int .i64 c.now) := cell_of_heap HM3.out.B.m 7
    have f7 := cell_frozen HM3.out.B.m 7
    go_upto_region 4 with (fail)
    obtain ⟨W4, hW4⟩ : ∃ W4, W4 = w2.setCell ⟨b, 7, none⟩ (.int .i64 (c.now + T.step)) := ⟨_, rfl⟩
    have hM4 : CarM w0 W4 b gp T P { c with pos := np, now := c.now + T.step } X S := by rw [hW4]; exact HM3.out.setB (i := 7) rfl HM3.out.B.q HM3.out.B.qb HM3.out.B.qc rfl rfl ⟨rfl, rfl, rfl, rfl⟩
    rw [← hW4]
    have HM4 := Lib.hid hM4
    have c13 : W4.cell? ⟨b, 13, none⟩ = some (.int .i64 X.st) := cell_of_heap hM4.B.m 13
    have f13 := cell_frozen hM4.B.m 13
    clear hW4 hM4 c7 f7
    go_upto_region 6 with (fail)
    obtain ⟨sv, hsv⟩ : ∃ sv, sv = wrap64 (X.st + 1) := ⟨_, rfl⟩
    rw [← hsv]
    obtain ⟨W5, hW5⟩ : ∃ W5, W5 = W4.setCell ⟨b, 13, none⟩ (.int .i64 sv) := ⟨_, rfl⟩
    have hM5 : CarM w0 W5 b gp T P { c with pos := np, now := c.now + T.step } { X with st := sv } S := by rw [hW5]; exact HM4.out.setB (i := 13) rfl HM4.out.B.q HM4.out.B.qb HM4.out.B.qc rfl rfl ⟨rfl, rfl, rfl, rfl⟩
    rw [← hW5]
    have HMR := Lib.hid (HMK.out W5 _ _ hM5)
    clear hW5 hM5 hsv c13 f13
    go_wp2_with (go_at_call 44; refine HMR.out.mono ?_; rintro e w9 ⟨rfl, X9, hM9⟩)
    (try simp only [Exit.inBlock, Exit.then])
    refine bodyPost_ret (results_none rfl _ _ _) rfl ?_
    rw [HNC.out]
    exact ⟨rfl, X9, hM9⟩
  · have HNC := Lib.hid (show nextC T.recs.length T.step c = { c with way := -c.way } from by unfold nextC; rw [← hnp, if_neg hc])
    have c9 : W1.cell? ⟨b, 9, none⟩ = some (.int .i64 c.way) := cell_of_heap HM1.out.B.m 9
    have f9 := cell_frozen HM1.out.B.m 9
    have hcc : np < 0 ∨ (T.recs.length : Int) ≤ np := by omega
    clear hnp hc
    rcases hcc with q0 | q1
    · have q0' : ¬(0 ≤ np) := by omega
      go_upto_region 6 with (fail)
      obtain ⟨W5, hW5⟩ : ∃ W5, W5 = W1.setCell ⟨b, 9, none⟩ (.int .i64 (-c.way)) := ⟨_, rfl⟩
      have hM5 : CarM w0 W5 b gp T P { c with way := -c.way } X S := by rw [hW5]; exact HM1.out.setB (i := 9) rfl HM1.out.B.q HM1.out.B.qb HM1.out.B.qc rfl rfl ⟨rfl, rfl, rfl, rfl⟩
      rw [← hW5]
      have HMR := Lib.hid (HMK.out W5 _ _ hM5)
      clear hW5 hM5 c9 f9
      go_wp2_with (go_at_call 44; refine HMR.out.mono ?_; rintro e w9 ⟨rfl, X9, hM9⟩)
      (try simp only [Exit.inBlock, Exit.then])
      refine bodyPost_ret (results_none rfl _ _ _) rfl ?_
      rw [HNC.out]
      exact ⟨rfl, X9, hM9⟩
    · have q0' : 0 ≤ np := by omega
      have q1' : ¬(np < (T.recs.length : Int)) := by omega
      go_upto_region 6 with (fail)
      obtain ⟨W5, hW5⟩ : ∃ W5, W5 = W1.setCell ⟨b, 9, none⟩ (.int .i64 (-c.way)) := ⟨_, rfl⟩
      have hM5 : CarM w0 W5 b gp T P { c with way := -c.way } X S := by rw [hW5]; exact HM1.out.setB (i := 9) rfl HM1.out.B.q HM1.out.B.qb HM1.out.B.qc rfl rfl ⟨rfl, rfl, rfl, rfl⟩
      rw [← hW5]
      have HMR := Lib.hid (HMK.out W5 _ _ hM5)
      clear hW5 hM5 c9 f9
      go_wp2_with (go_at_call 44; refine HMR.out.mono ?_; rintro e w9 ⟨rfl, X9, hM9⟩)
      (try simp only [Exit.inBlock, Exit.then])
      refine bodyPost_ret (results_none rfl _ _ _) rfl ?_
      rw [HNC.out]
      exact ⟨rfl, X9, hM9⟩
end Go.Proofs.YtppncdbhebgcaaaDoor
namespace Go.Proofs.YtppncdbhebgcaaaDoor
open Go.RowKit


/-- how long the queue is that stands in memory -/
def qlen (b : Nat) (w : World) : Nat := match w.cell? ⟨b, 5, none⟩ with
  | some (.slice _ n _) => n
  | _ => 0
theorem CarM.qlen {w0 w : World} {b gp S : Nat} {T : TrayD} {P : TrP} {c : Car} {X : CarX} (h : CarM w0 w b gp T P c X S) : qlen b w = c.queue.length := by
  have c5 : w.cell? ⟨b, 5, none⟩ = some (.slice X.qq c.queue.length X.cq) := cell_of_heap h.B.m 5
  unfold Go.Proofs.YtppncdbhebgcaaaDoor.qlen
  rw [c5]
theorem pressL_cons (now s t : Int) (q : List (Int × Int)) (p : List Bool) : pressL now ((s, t) :: q) p = if t ≤ now then pressL now q (p.set s.toNat true) else ((s, t) :: q, p) := by rw [pressL]
theorem PairsAt.tail {w : World} {b o : Nat} {r : Int × Int} {l : List (Int × Int)} (h : PairsAt w (some ⟨b, o, none⟩) (r :: l)) : PairsAt w (some ⟨b, o + 2, none⟩) l := by
  intro i hi
  obtain ⟨b', o', he, h1, h2⟩ := h (i + 1) (by simp; omega)
  cases he
  rw [List.getElem_cons_succ] at h1 h2
  exact ⟨b, o + 2, rfl, by rw [show o + 2 + i * 2 = o + (i + 1) * 2 by omega]; exact h1, by rw [show o + 2 + i * 2 + 1 = o + (i + 1) * 2 + 1 by omega]; exact h2⟩
theorem pin_cell {w : World} {gp s : Nat} {l : List Bool} (h : w.heap[gp]? = some (.cells (boolVs l) 4)) (hs : s < l.length) : w.cell? ⟨gp, s, none⟩ = some (.bool l[s]) ∧ w.frozen? ⟨gp, s, none⟩ = false := by
  refine ⟨?_, cell_frozen h s⟩
  rw [cell_of_heap h]
  simp [boolVs, hs]

set_option maxRecDepth 20000 in
set_option maxHeartbeats 6400000 in
theorem press02 {w0 w : World} {b gp S N : Nat} {T : TrayD} {P : TrP} {c : Car} {X : CarX} (h : CarM w0 w b gp T P c X S) (_hS : S ≤ 1000000) (hT : ValidY T) (hO : CarOK T.recs.length N c) :
    Calls Tryd.prog 52 #[.pointer (some ⟨b, 0, none⟩)] w (RetC w0 b gp T P (pressC c) S (.tuple #[])) := by
  have HM := Lib.hid h
  have hpl := hO.pl
  have hn6 := hT.n6
  have HQS := Lib.hid hO.qs
  obtain ⟨pN, hpN⟩ : ∃ n, n = c.pins.length := ⟨_, rfl⟩
  have HPL := Lib.hid (show pN = 2 * T.recs.length from by rw [hpN]; exact hpl)
  have HPC := Lib.hid (show pressC c = { c with queue := (pressL c.now c.queue c.pins).1, pins := (pressL c.now c.queue c.pins).2 } from rfl)
  have HP0 := Lib.hid hpN
  clear hT hO hpl h hpN
  go_enter Tryd.func52, Tryd.ntmps52
  go_wp2
  go_loopw [] (fun wr => ∃ (q1 : List (Int × Int)) (pn : List Bool) (X1 : CarX), CarM w0 wr b gp T P { c with queue := q1, pins := pn } X1 S ∧ pressL c.now q1 pn = pressL c.now c.queue c.pins ∧ pn.length = pN ∧ ∀ x ∈ q1, x ∈ c.queue) (fun wr => qlen b wr)
  case atStart => exact ⟨c.queue, c.pins, X, HM.out, rfl, HP0.out.symm, fun x hx => hx⟩
  case round =>
    obtain ⟨q0, pn, X1, hM, hP, hpn, hsub⟩ := hrel
    have HM1 := Lib.hid hM
    have HP1 := Lib.hid hP
    have HPN := Lib.hid hpn
    have HSB := Lib.hid hsub
    have c5 := ExtW.cell (v := .slice X1.qq q0.length X1.cq) (cell_of_heap hM.B.m 5)
    have c7 := ExtW.cell (v := .int .i64 c.now) (cell_of_heap hM.B.m 7)
    have hqc := hM.B.qc
    clear hM hP hpn hsub
    cases q0 with
    | nil =>
      obtain ⟨y0, hy0⟩ := ExtW.of (Ext.refl wr)
      conv => arg 5; rw [hy0]
      clear hy0
      go_upto_region 0 with (fail)
      refine wp_region_extW (by kernel_rfl) (by kernel_rfl) ?_
      repeat (go_big_quiet_step (fail))
      refine wpQuiet_nil ?_
      rintro _ ⟨x1, rfl⟩
      have HM2 := Lib.hid (HM1.out.ext x1.h)
      go_wp2
      (try simp only [Exit.inBlock, Exit.then])
      refine bodyPost_ret (results_none rfl _ _ _) rfl ?_
      have hp := HP1.out
      rw [HPC.out, ← hp]
      exact ⟨rfl, X1, HM2.out⟩
    | cons r q1 =>
      have hr0 := HQS.out r (HSB.out r List.mem_cons_self)
      obtain ⟨s, hs⟩ : ∃ s : Nat, r.1 = s := ⟨r.1.toNat, by omega⟩
      obtain ⟨t, ht⟩ : ∃ t, t = r.2 := ⟨_, rfl⟩
      obtain ⟨qb, qo, hqq, hq1, hq2⟩ := HM1.out.B.q 0 (by simp)
      rw [show ((r :: q1)[0]).1 = (s : Int) from hs, Nat.zero_mul, Nat.add_zero] at hq1
      rw [show ((r :: q1)[0]).2 = t from ht.symm, Nat.zero_mul, Nat.add_zero] at hq2
      have k1 := ExtW.cell hq2
      have HQ1 := Lib.hid hq1
      have HQQ := Lib.hid hqq
      rw [hqq] at c5
      have hll : (r :: q1).length = q1.length + 1 := rfl
      rw [hll] at c5
      have hl1 : (0 : Int) < (q1.length : Int) + 1 := by omega
      have HST := Lib.hid (⟨hs, ht⟩ : r.1 = (s : Int) ∧ t = r.2)
      have hsp : s < pn.length := by have := HPN.out; have := HPL.out; omega
      have hqc' : q1.length + 1 ≤ X1.cq := hqc
      have hunf : pressL c.now (r :: q1) pn = if t ≤ c.now then pressL c.now q1 (pn.set s true) else (r :: q1, pn) := by
        rw [show (r :: q1) = ((s : Int), t) :: q1 from by rw [← hs, ht], pressL_cons, Int.toNat_natCast]
      clear hs ht hqq hq1 hq2 hll hqc hr0
      by_cases hc : t ≤ c.now
      · rw [if_pos hc] at hunf
        have HUN := Lib.hid (hunf.symm.trans HP1.out)
        clear hunf
        obtain ⟨y0, hy0⟩ := ExtW.of (Ext.refl wr)
        conv => arg 5; rw [hy0]
        clear hy0
        go_upto_region 0 with (fail)
        refine wp_region_extW (by kernel_rfl) (by kernel_rfl) ?_
        repeat (go_big_quiet_step (fail))
        refine wpQuiet_nil ?_
        rintro _ ⟨x1, rfl⟩
        have HM2 := Lib.hid (HM1.out.ext x1.h)
        obtain ⟨W1, hW1⟩ : ∃ W1, W1 = x1.w := ⟨_, rfl⟩
        have HQ2 := Lib.hid (x1.h.cell HQ1.out)
        rw [← hW1] at HM2 HQ2 ⊢
        have HKC := Lib.hid (fun y (h : Ext W1 y) => (by
          have h2 := (HM2.out.ext h).B.m
          have h5 : y.cell? ⟨b, 5, none⟩ = some (.slice X1.qq (q1.length + 1) X1.cq) := cell_of_heap h2 5
          rw [HQQ.out] at h5
          exact ⟨h5, cell_of_heap h2 6, h.cell HQ2.out⟩ :
          y.cell? ⟨b, 5, none⟩ = some (.slice (some ⟨qb, qo, none⟩) (q1.length + 1) X1.cq) ∧ y.cell? ⟨b, 6, none⟩ = some (.slice (some ⟨gp, 0, none⟩) pn.length pn.length) ∧ y.cell? ⟨qb, qo, none⟩ = some (.int .i64 (s : Int))))
        clear hW1 c5 c7 k1
        go_upto_region 1 with (fail)
        refine wp_region_facts 11 [[], [0], [1], [2], [], [4], [5], [6], [7], [8], [9]] [3, 10] Ext (FL [Is (.pointer (some ⟨b, 0, none⟩)), Is (.pointer (some ⟨b, 0, none⟩)), Is (.pointer (some ⟨b, 6, none⟩)), Is (.slice (some ⟨gp, 0, none⟩) pn.length pn.length), Is (.pointer (some ⟨b, 0, none⟩)), Is (.pointer (some ⟨b, 0, none⟩)), Is (.pointer (some ⟨b, 5, none⟩)), Is (.slice (some ⟨qb, qo, none⟩) (q1.length + 1) X1.cq), Is (.pointer (some ⟨qb, qo, none⟩)), Is (.pointer (some ⟨qb, qo, none⟩)), Is (.int .i64 (s : Int))]) (by kernel_rfl) (by kernel_rfl) Ext.refl (fun _ _ _ => Ext.trans) (fun _ _ => Ext.size) (FL.mono ⟨Is.mono, Is.mono, Is.mono, Is.mono, Is.mono, Is.mono, Is.mono, Is.mono, Is.mono, Is.mono, Is.mono, trivial⟩) ⟨?_, ?_, ?_, ?_, ?_, ?_, ?_, ?_, ?_, ?_, ?_, trivial⟩ ?_
        · refine opF_step ?_
          intro ys l0 h0 w' hr hf K hK
          clear hf
          simp only [fill, Act.put, dstO, List.take_succ_cons, List.take_zero, List.setIfInBounds_toArray, List.set_cons_zero, List.set_cons_succ, List.getElem?_cons_zero, Nat.zero_add, Nat.reduceAdd] at hK ⊢
          refine OpB.mk' ?_
          go_simp
          exact hK.out _ _ rfl (Ext.refl _)
        · refine opF_step ?_
          intro ys l0 h0 w' hr hf K hK
          obtain ⟨f0, -⟩ := hf
          have e0 : ys 0 = _ := f0
          simp only [fill, Act.put, dstO, List.take_succ_cons, List.take_zero, List.setIfInBounds_toArray, List.set_cons_zero, List.set_cons_succ, List.getElem?_cons_zero, List.getElem?_cons_succ, Nat.zero_add, Nat.reduceAdd] at hK ⊢
          simp only [e0] at hK ⊢
          clear e0 f0
          refine OpB.mk' ?_
          go_simp
          exact hK.out _ _ rfl (Ext.refl _)
        · refine opF_step ?_
          intro ys l0 h0 w' hr hf K hK
          obtain ⟨f0, -⟩ := hf
          have e0 : ys 1 = _ := f0
          simp only [fill, Act.put, dstO, List.take_succ_cons, List.take_zero, List.setIfInBounds_toArray, List.set_cons_zero, List.set_cons_succ, List.getElem?_cons_zero, List.getElem?_cons_succ, Nat.zero_add, Nat.reduceAdd] at hK ⊢
          simp only [e0] at hK ⊢
          clear e0 f0
          refine OpB.mk' ?_
          go_simp
          exact hK.out _ _ rfl (Ext.refl _)
        · refine opF_step ?_
          intro ys l0 h0 w' hr hf K hK
          obtain ⟨f0, -⟩ := hf
          have e0 : ys 2 = _ := f0
          obtain ⟨j5, j6, jq⟩ := HKC.out w' ((Ext.refl W1).drew.trans hr)
          simp only [fill, Act.put, dstO, List.take_succ_cons, List.take_zero, List.setIfInBounds_toArray, List.set_cons_zero, List.set_cons_succ, List.getElem?_cons_zero, List.getElem?_cons_succ, Nat.zero_add, Nat.reduceAdd] at hK ⊢
          simp only [e0] at hK ⊢
          clear e0 f0
          refine OpB.mk' ?_
          go_simp
          exact hK.out _ _ rfl (Ext.refl _)
        · refine opF_step ?_
          intro ys l0 h0 w' hr hf K hK
          clear hf
          simp only [fill, Act.put, dstO, List.take_succ_cons, List.take_zero, List.setIfInBounds_toArray, List.set_cons_zero, List.set_cons_succ, List.getElem?_cons_zero, List.getElem?_cons_succ, Nat.zero_add, Nat.reduceAdd] at hK ⊢
          refine OpB.mk' ?_
          go_simp
          exact hK.out _ _ rfl (Ext.refl _)
        · refine opF_step ?_
          intro ys l0 h0 w' hr hf K hK
          obtain ⟨f0, -⟩ := hf
          have e0 : ys 4 = _ := f0
          simp only [fill, Act.put, dstO, List.take_succ_cons, List.take_zero, List.setIfInBounds_toArray, List.set_cons_zero, List.set_cons_succ, List.getElem?_cons_zero, List.getElem?_cons_succ, Nat.zero_add, Nat.reduceAdd] at hK ⊢
          simp only [e0] at hK ⊢
          clear e0 f0
          refine OpB.mk' ?_
          go_simp
          exact hK.out _ _ rfl (Ext.refl _)
        · refine opF_step ?_
          intro ys l0 h0 w' hr hf K hK
          obtain ⟨f0, -⟩ := hf
          have e0 : ys 5 = _ := f0
          simp only [fill, Act.put, dstO, List.take_succ_cons, List.take_zero, List.setIfInBounds_toArray, List.set_cons_zero, List.set_cons_succ, List.getElem?_cons_zero, List.getElem?_cons_succ, Nat.zero_add, Nat.reduceAdd] at hK ⊢
          simp only [e0] at hK ⊢
          clear e0 f0
          refine OpB.mk' ?_
          go_simp
          exact hK.out _ _ rfl (Ext.refl _)
        · refine opF_step ?_
          intro ys l0 h0 w' hr hf K hK
          obtain ⟨f0, -⟩ := hf
          have e0 : ys 6 = _ := f0
          obtain ⟨j5, j6, jq⟩ := HKC.out w' ((Ext.refl W1).drew.trans hr)
          simp only [fill, Act.put, dstO, List.take_succ_cons, List.take_zero, List.setIfInBounds_toArray, List.set_cons_zero, List.set_cons_succ, List.getElem?_cons_zero, List.getElem?_cons_succ, Nat.zero_add, Nat.reduceAdd] at hK ⊢
          simp only [e0] at hK ⊢
          clear e0 f0
          refine OpB.mk' ?_
          go_simp
          exact hK.out _ _ rfl (Ext.refl _)
        · refine opF_step ?_
          intro ys l0 h0 w' hr hf K hK
          obtain ⟨f0, -⟩ := hf
          have e0 : ys 7 = _ := f0
          simp only [fill, Act.put, dstO, List.take_succ_cons, List.take_zero, List.setIfInBounds_toArray, List.set_cons_zero, List.set_cons_succ, List.getElem?_cons_zero, List.getElem?_cons_succ, Nat.zero_add, Nat.reduceAdd] at hK ⊢
          simp only [e0] at hK ⊢
          clear e0 f0
          refine OpB.mk' ?_
          go_simp
          exact hK.out _ _ rfl (Ext.refl _)
        · refine opF_step ?_
          intro ys l0 h0 w' hr hf K hK
          obtain ⟨f0, -⟩ := hf
          have e0 : ys 8 = _ := f0
          simp only [fill, Act.put, dstO, List.take_succ_cons, List.take_zero, List.setIfInBounds_toArray, List.set_cons_zero, List.set_cons_succ, List.getElem?_cons_zero, List.getElem?_cons_succ, Nat.zero_add, Nat.reduceAdd] at hK ⊢
          simp only [e0] at hK ⊢
          clear e0 f0
          refine OpB.mk' ?_
          go_simp
          exact hK.out _ _ rfl (Ext.refl _)
        · refine opF_step ?_
          intro ys l0 h0 w' hr hf K hK
          obtain ⟨f0, -⟩ := hf
          have e0 : ys 9 = _ := f0
          obtain ⟨j5, j6, jq⟩ := HKC.out w' ((Ext.refl W1).drew.trans hr)
          simp only [fill, Act.put, dstO, List.take_succ_cons, List.take_zero, List.setIfInBounds_toArray, List.set_cons_zero, List.set_cons_succ, List.getElem?_cons_zero, List.getElem?_cons_succ, Nat.zero_add, Nat.reduceAdd] at hK ⊢
          simp only [e0] at hK ⊢
          clear e0 f0
          refine OpB.mk' ?_
          go_simp
          exact hK.out _ _ rfl (Ext.refl _)
        intro ys l0 h0 w2 hr hf hsp
        obtain ⟨f3, f10, -⟩ := hf
        have e3 : ys 3 = _ := f3
        have e10 : ys 10 = _ := f10
        simp only [fill, Act.put, List.take_succ_cons, List.take_zero, List.setIfInBounds_toArray, List.set_cons_zero, List.set_cons_succ, Nat.zero_add, Nat.reduceAdd, List.drop_succ_cons, List.drop_zero]
        rw [e3, e10]
        clear e3 f3 e10 f10
        clear hsp
        have HM3 := Lib.hid (HM2.out.ext ((Ext.refl W1).drew.trans hr))
        clear hr HKC
        have hspI : (s : Int) < (pn.length : Int) := by omega
        obtain ⟨c0, f0⟩ := pin_cell HM3.out.B.p hsp
        obtain ⟨bv, hbv⟩ : ∃ v, v = pn[s] := ⟨_, rfl⟩
        rw [← hbv] at c0
        clear hbv
        go_upto_region 2 with (fail)
        obtain ⟨W4, hW4⟩ : ∃ W4, W4 = w2.setCell ⟨gp, s, none⟩ (.bool true) := ⟨_, rfl⟩
        have hM4 : CarM w0 W4 b gp T P { c with queue := r :: q1, pins := pn.set s true } X1 S := by rw [hW4]; exact HM3.out.setP rfl
        rw [← hW4]
        have HM4 := Lib.hid hM4
        have c5 : W4.cell? ⟨b, 5, none⟩ = some (.slice X1.qq (q1.length + 1) X1.cq) := cell_of_heap hM4.B.m 5
        rw [HQQ.out] at c5
        have f5 := cell_frozen hM4.B.m 5
        have g1 : (1 : Int) ≤ (q1.length : Int) + 1 := by omega
        have g2 : (q1.length : Int) + 1 ≤ (X1.cq : Int) := by omega
        clear hW4 hM4 c0 f0
        have hq4 := HM4.out.B.q
        have hqb4 := HM4.out.B.qb
        have hqq4 : X1.qq = some ⟨qb, qo, none⟩ := HQQ.out
        have hM5 : CarM w0 (W4.setCell ⟨b, 5, none⟩ (.slice (if X1.cq = 1 then some ⟨qb, qo, none⟩ else some ⟨qb, qo + 2, none⟩) q1.length (X1.cq - 1))) b gp T P { c with queue := q1, pins := pn.set s true } { X1 with qq := if X1.cq = 1 then some ⟨qb, qo, none⟩ else some ⟨qb, qo + 2, none⟩, cq := X1.cq - 1 } S := by
          refine HM4.out.setB (i := 5) rfl ?_ ?_ ?_ rfl rfl ⟨rfl, rfl, rfl, rfl⟩
          · show PairsAt W4 (if X1.cq = 1 then some ⟨qb, qo, none⟩ else some ⟨qb, qo + 2, none⟩) q1
            split
            · have : q1 = [] := List.length_eq_zero_iff.1 (by omega)
              rw [this]
              exact PairsAt.nil _ _
            · rw [hqq4] at hq4
              exact hq4.tail
          · intro a ha
            have h0 := hqb4 ⟨qb, qo, none⟩ hqq4
            have hab : a.block = qb := by
              have ha' : (if X1.cq = 1 then some (⟨qb, qo, none⟩ : Addr) else some ⟨qb, qo + 2, none⟩) = some a := ha
              split at ha' <;> cases ha' <;> rfl
            rw [hab]
            exact h0
          · show q1.length ≤ X1.cq - 1
            omega
        have HM5 := Lib.hid hM5
        clear hM5 hq4 hqb4 hqq4
        go_wp2
        refine ⟨⟨q1, pn.set s true, _, HM5.out, HUN.out, by rw [List.length_set]; exact HPN.out, fun x hx => HSB.out x (List.mem_cons_of_mem _ hx)⟩, ?_⟩
        have e1 := HM5.out.qlen
        have e2 := HM1.out.qlen
        rw [e1, e2]
        simp
      · rw [if_neg hc] at hunf
        have HUN := Lib.hid (hunf.symm.trans HP1.out)
        clear hunf
        obtain ⟨y0, hy0⟩ := ExtW.of (Ext.refl wr)
        conv => arg 5; rw [hy0]
        clear hy0
        go_upto_region 0 with (fail)
        refine wp_region_extW (by kernel_rfl) (by kernel_rfl) ?_
        repeat (go_big_quiet_step (fail))
        refine wpQuiet_nil ?_
        rintro _ ⟨x1, rfl⟩
        have HM2 := Lib.hid (HM1.out.ext x1.h)
        go_wp2
        (try simp only [Exit.inBlock, Exit.then])
        refine bodyPost_ret (results_none rfl _ _ _) rfl ?_
        have hp := HUN.out
        rw [HPC.out, ← hp]
        exact ⟨rfl, X1, HM2.out⟩
end Go.Proofs.YtppncdbhebgcaaaDoor
namespace Go.Proofs.YtppncdbhebgcaaaDoor
open Go.RowKit

/-- what Index of a true one answers -/
def RetIx (l : List Bool) (w : World) (e : Ending) (w' : World) : Prop := ∃ k : Int, e = .returned (.int .i64 k) ∧ (l.any id = true → 0 ≤ k) ∧ (l.any id = false → k = -1) ∧ Ext w w'
theorem RetIx.fin {l : List Bool} {w w' : World} {k : Int} (h1 : l.any id = true → 0 ≤ k) (h2 : l.any id = false → k = -1) (h3 : Ext w w') : RetIx l w (.returned (.int .i64 k)) w' := ⟨k, rfl, h1, h2, h3⟩

set_option maxRecDepth 20000 in
set_option maxHeartbeats 3200000 in
theorem indexB {w : World} {gp : Nat} {l : List Bool} (hl : l.length ≤ 1000) (h : w.heap[gp]? = some (.cells (boolVs l) 4)) :
    Calls Tryd.prog 60 #[.slice (some ⟨gp, 0, none⟩) l.length l.length, .bool true] w (RetIx l w) := by
  have HC := Lib.hid (fun k (hk : k < l.length) => (pin_cell h hk).1)
  clear h
  go_enter Tryd.func60, Tryd.ntmps60
  go_wp2
  go_loopw [8] (fun a wr => ∃ k : Nat, k ≤ l.length ∧ a = .int .i64 k ∧ (∀ j (h : j < l.length), j < k → l[j] = false) ∧ Ext w wr) (fun a _ => l.length - (intOf a).toNat)
  case atStart => exact ⟨0, Nat.zero_le _, rfl, fun j h hj => by omega, Ext.refl _⟩
  case round =>
    obtain ⟨k, hk, rfl, hN, hE⟩ := hrel
    have HN := Lib.hid hN
    have HE := Lib.hid hE
    clear hN hE
    by_cases hlt : k < l.length
    · have hlt' : (k : Int) < (l.length : Int) := by omega
      have c0 := HE.out.cell (HC.out k hlt)
      have hnx : l[k] = false → ∀ j (h : j < l.length), j < k + 1 → l[j] = false := fun h0 j h hj => by
        by_cases e : j = k
        · subst e; exact h0
        · exact HN.out j h (by omega)
      have hyes : l[k] = true → l.any id = true := fun h0 => List.any_eq_true.2 ⟨l[k], List.getElem_mem hlt, h0⟩
      obtain ⟨bv, hbv⟩ : ∃ v, v = l[k] := ⟨_, rfl⟩
      rw [← hbv] at c0 hnx hyes
      clear hbv
      cases bv with
      | true =>
        have HY := Lib.hid (hyes rfl)
        clear hnx hyes
        go_wp2
        go_ret
        exact RetIx.fin (fun _ => by omega) (fun h => by rw [HY.out] at h; cases h) HE.out
      | false =>
        have HN2 := Lib.hid (hnx rfl)
        clear hnx hyes
        go_wp2
        go_roundw
        case rel => exact ⟨k + 1, by omega, by simp, HN2.out, HE.out⟩
        case measure => simp [intOf]; omega
    · obtain rfl : k = l.length := by omega
      have hge : ¬((l.length : Int) < (l.length : Int)) := by omega
      have HF := Lib.hid (show l.any id = false from by
        rw [Bool.eq_false_iff]
        intro h
        obtain ⟨x, hx, he⟩ := List.any_eq_true.1 h
        obtain ⟨j, hj, rfl⟩ := List.getElem_of_mem hx
        have := HN.out j hj hj
        rw [this] at he
        cases he)
      go_wp2
      go_ret
      exact RetIx.fin (fun h => by rw [HF.out] at h; cases h) (fun _ => rfl) HE.out
theorem containsB {w : World} {gp : Nat} {l : List Bool} (hl : l.length ≤ 1000) (h : w.heap[gp]? = some (.cells (boolVs l) 4)) :
    Calls Tryd.prog 53 #[.slice (some ⟨gp, 0, none⟩) l.length l.length, .bool true] w (RetE (.bool (l.any id)) w) := by
  have HI := Lib.hid (indexB hl h)
  obtain ⟨bv, hbv⟩ : ∃ v, v = l.any id := ⟨_, rfl⟩
  have HB := Lib.hid hbv
  rw [← hbv]
  clear h hbv
  go_enter Tryd.func53, Tryd.ntmps53
  cases bv with
  | true =>
    go_wp2_with (go_at_call 60; refine HI.out.mono ?_; rintro e w2 ⟨k, rfl, h1, -, hE2⟩; have h1' := h1 HB.out.symm; clear h1)
    go_ret
    exact RetE.fin hE2 rfl
  | false =>
    go_wp2_with (go_at_call 60; refine HI.out.mono ?_; rintro e w2 ⟨k, rfl, -, h1, hE2⟩; obtain rfl := h1 HB.out.symm; clear h1)
    go_ret
    exact RetE.fin hE2 rfl
theorem last_bd {T : TrayD} (hT : ValidY T) {s : Int} (h0 : 0 ≤ s) (h1 : s < 2 * (T.recs.length : Int)) : 1 ≤ lastC T.recs s ∧ lastC T.recs s ≤ 999 := by
  have hd : Int.tdiv s 2 = s / 2 := Int.tdiv_eq_ediv_of_nonneg h0
  obtain ⟨k, hk⟩ : ∃ k : Nat, s / 2 = k := ⟨(s / 2).toNat, by omega⟩
  have hlt : k < T.recs.length := by omega
  have hg : T.recs.getD (Int.tdiv s 2).toNat (0, 0) = T.recs[k] := by rw [hd, hk, Int.toNat_natCast, List.getD_eq_getElem?_getD, List.getElem?_eq_getElem hlt]; rfl
  have := hT.rc _ (List.getElem_mem hlt)
  unfold lastC
  rw [hg]
  split <;> omega
end Go.Proofs.YtppncdbhebgcaaaDoor
namespace Go.Proofs.YtppncdbhebgcaaaDoor
open Go.RowKit


set_option maxRecDepth 20000 in
set_option maxHeartbeats 16000000 in
theorem act02 {w0 w : World} {b gp S N : Nat} {T : TrayD} {P : TrP} {c : Car} {X : CarX} (h : CarM w0 w b gp T P c X S) (hS : S + 3 ≤ 1000000) (hT : ValidY T) (hO : CarOK T.recs.length N c) (hN : N ≤ 1000000) (hn0 : 0 ≤ c.now) (hn1 : c.now ≤ 900000000) (hV : TyV w0 (.agg #[.slice P.pr T.recs.length P.cr, .int .i64 T.at_, .int .i64 T.way, .int .i64 T.step, .slice P.pp T.prs.length P.cp]) T) :
    Calls Tryd.prog 45 #[.pointer (some ⟨b, 0, none⟩)] w (fun e w' => e = .returned (.bool (actC T.recs T.step c).2) ∧ ∃ X', CarM w0 w' b gp T P (actC T.recs T.step c).1 X' (S + 3)) := by
  have HPS := Lib.hid (press02 h (by omega) hT hO)
  have HO := Lib.hid hO.press
  have HVT := Lib.hid hT
  have HV := Lib.hid hV
  have hn6 := hT.n6
  have HPL := Lib.hid hO.press.pl
  have hpc : (pressC c).plays.length ≤ 1000000 := by have := hO.press.cnt; omega
  have hp0 := hO.press.p0
  have hpn := hO.press.pn
  have hwy := hO.press.wy
  have hnow : (pressC c).now = c.now := rfl
  have HAC := Lib.hid (show actC T.recs T.step c = if (pressC c).pins.any id then (nextC T.recs.length T.step (playC T.recs (pressC c)), true) else match (pressC c).queue with | [] => (pressC c, false) | x :: _ => ({ pressC c with now := x.2 }, true) from rfl)
  obtain ⟨res, hres⟩ : ∃ r, r = actC T.recs T.step c := ⟨_, rfl⟩
  rw [← hres] at HAC ⊢
  obtain ⟨c1, hc1⟩ : ∃ c1, c1 = pressC c := ⟨_, rfl⟩
  rw [← hc1] at HPS HO HAC HPL hpc hp0 hpn hwy hnow
  rw [← hnow] at hn0 hn1
  obtain ⟨i0, hi, hz0, hz1, hz2⟩ := info_parts info_play
  have HI0 := Lib.hid (⟨hi, hz0, hz1, hz2⟩ : _ ∧ _ ∧ _ ∧ _)
  clear h hT hO hV hres hc1 hnow hi hz0 hz1 hz2
  go_enter Tryd.func45, Tryd.ntmps45
  go_upto_region 2 with (go_at_call 52; refine HPS.out.mono ?_; rintro e W1 ⟨rfl, X1, hM1⟩)
  have HM1 := Lib.hid hM1
  have c6 : W1.cell? ⟨b, 6, none⟩ = some (.slice (some ⟨gp, 0, none⟩) c1.pins.length c1.pins.length) := cell_of_heap hM1.B.m 6
  have HCN := Lib.hid (containsB (by have := HPL.out; omega) hM1.B.p)
  obtain ⟨an, han⟩ : ∃ an, an = c1.pins.any id := ⟨_, rfl⟩
  rw [← han] at HCN HAC
  clear hM1 HPS han
  cases an with
  | false =>
    rw [if_neg (by decide)] at HAC
    go_upto_region 3 with (go_at_call 53; refine HCN.out.mono ?_; rintro e W2 ⟨rfl, hE2⟩)
    have HM2 := Lib.hid (HM1.out.ext hE2)
    have c5 : W2.cell? ⟨b, 5, none⟩ = some (.slice X1.qq c1.queue.length X1.cq) := cell_of_heap HM2.out.B.m 5
    clear hE2 HM1 HCN c6
    have HOC := Lib.hid HO.out.qs
    cases hq : c1.queue with
    | nil =>
      rw [hq] at HAC c5
      have HA2 := Lib.hid (show res = (c1, false) from HAC.out)
      clear hq HAC
      go_wp2
      go_ret
      exact ⟨by rw [HA2.out]; rfl, X1, by rw [HA2.out]; exact HM2.out.mono (by omega)⟩
    | cons r q1 =>
      rw [hq] at HAC c5 HOC
      have HA2 := Lib.hid (show res = ({ c1 with now := r.2 }, true) from HAC.out.trans (by show (({ c1 with queue := r :: q1, now := r.2 } : Car), true) = ({ c1 with now := r.2 }, true); rw [← hq]))
      have hqr := HM2.out.B.q
      rw [hq] at hqr
      obtain ⟨qb, qo, hqq, -, hq2⟩ := hqr 0 (by simp)
      rw [show ((r :: q1)[0]).2 = r.2 from rfl, Nat.zero_mul, Nat.add_zero] at hq2
      rw [hqq, List.length_cons] at c5
      obtain ⟨t, ht⟩ : ∃ t, t = r.2 := ⟨_, rfl⟩
      rw [← ht] at hq2 HA2
      have c7 : W2.cell? ⟨b, 7, none⟩ = some (.int .i64 c1.now) := cell_of_heap HM2.out.B.m 7
      have f7 := cell_frozen HM2.out.B.m 7
      have hl1 : (0 : Int) < (q1.length : Int) + 1 := by omega
      have HM3 := Lib.hid (show CarM w0 (W2.setCell ⟨b, 7, none⟩ (.int .i64 t)) b gp T P { c1 with now := t } X1 S from HM2.out.setB (i := 7) rfl HM2.out.B.q HM2.out.B.qb HM2.out.B.qc rfl rfl ⟨rfl, rfl, rfl, rfl⟩)
      clear hq HAC hqr ht hqq HOC
      go_wp2
      go_ret
      exact ⟨by rw [HA2.out]; rfl, X1, by rw [HA2.out]; exact HM3.out.mono (by omega)⟩
  | true =>
    rw [if_pos rfl] at HAC
    have HNX := Lib.hid (fun (w1 : World) (c2 : Car) (X2 : CarX) (S2 : Nat) (h2 : CarM w0 w1 b gp T P c2 X2 S2) (h3 : S2 ≤ 1000000 ∧ 0 ≤ c2.now ∧ c2.now ≤ 1000000000) (h4 : CarOK T.recs.length N c2) => next02 h2 h3.1 HVT.out h4 h3.2.1 h3.2.2)
    have HMK := Lib.hid (fun (w1 : World) (c1 : Car) (X1 : CarX) (S1 : Nat) (s : Int) (h1 : CarM w0 w1 b gp T P c1 X1 S1) (h2 : S1 ≤ 1000000) => mark02 h1 h2 s)
    go_upto_region 7 with (go_at_call 53; refine HCN.out.mono ?_; rintro e W2 ⟨rfl, hE2⟩)
    have HM2 := Lib.hid (HM1.out.ext hE2)
    have c8 : W2.cell? ⟨b, 8, none⟩ = some (.int .i64 c1.pos) := cell_of_heap HM2.out.B.m 8
    have c9 : W2.cell? ⟨b, 9, none⟩ = some (.int .i64 c1.way) := cell_of_heap HM2.out.B.m 9
    have c6 : W2.cell? ⟨b, 6, none⟩ = some (.slice (some ⟨gp, 0, none⟩) c1.pins.length c1.pins.length) := cell_of_heap HM2.out.B.m 6
    have hw1 : IntKind.i64.wrap (2 * c1.pos) = 2 * c1.pos := IntWalk.i64_in _ (by omega)
    have hw2 : IntKind.i64.wrap (2 * c1.pos + 1) = 2 * c1.pos + 1 := IntWalk.i64_in _ (by omega)
    obtain ⟨sd, hsd⟩ : ∃ sd : Nat, sideC c1 = sd := ⟨(sideC c1).toNat, by unfold sideC; split <;> omega⟩
    have HSD := Lib.hid hsd
    have hsb : sd < c1.pins.length := by have := HPL.out; unfold sideC at hsd; split at hsd <;> omega
    clear hE2 HM1 HCN
    have hcase : (c1.way < 0 ∧ 2 * c1.pos + 1 = (sd : Int)) ∨ (¬c1.way < 0 ∧ 2 * c1.pos = (sd : Int)) := by
      unfold sideC at hsd
      split at hsd
      · exact Or.inl ⟨by assumption, hsd⟩
      · exact Or.inr ⟨by assumption, hsd⟩
    clear hsd
    rcases hcase with ⟨q0, q1⟩ | ⟨q0, q1⟩
    all_goals
      go_upto_region 10 with (fail)
      (try rw [q1])
      obtain ⟨p0c, pf0⟩ := pin_cell HM2.out.B.p hsb
      have hsbI : (sd : Int) < (c1.pins.length : Int) := by omega
      clear c8 c9 q0 q1 hw1 hw2
      by_cases hpn : c1.pins[sd] = true
      · rw [hpn] at p0c
        obtain ⟨ln, hln⟩ : ∃ ln, ln = lastC T.recs (sd : Int) := ⟨_, rfl⟩
        have hlb := last_bd HVT.out (s := (sd : Int)) (by omega) (by have := HPL.out; omega)
        rw [← hln] at hlb
        have HPY := Lib.hid (show playC T.recs c1 = { c1 with pins := c1.pins.set sd false, plays := c1.plays ++ [((sd : Int), c1.now)], now := c1.now + ln } from by
          unfold playC
          rw [HSD.out, Int.toNat_natCast, List.getD_eq_getElem?_getD, List.getElem?_eq_getElem hsb, Option.getD_some, if_pos hpn, hln])
        have HLN := Lib.hid hln
        clear hln hpn
        go_upto_region 12 with (fail)
        obtain ⟨W3, hW3⟩ : ∃ W3, W3 = W2.setCell ⟨gp, sd, none⟩ (.bool false) := ⟨_, rfl⟩
        have hM3 : CarM w0 W3 b gp T P { c1 with pins := c1.pins.set sd false } X1 S := by rw [hW3]; exact HM2.out.setP rfl
        rw [← hW3]
        have HM3 := Lib.hid hM3
        have hb3 := hM3.B.size
        have HRB := Lib.hid (fun k (hk : X1.uP.ownBlock = some k) => (hM3.pl.lt k hk).2)
        have HRL := Lib.hid (fun k (hk : X1.uP.ownBlock = some k) => (hM3.pl.lt k hk).1)
        have HKC := Lib.hid (fun y (hy : GrB X1.uP.ownBlock W3 y) => (by
          have h2 := (hM3.B.grow hy fun k hk => by have := (hM3.pl.lt k hk).1; omega).m
          exact ⟨cell_of_heap h2 7, cell_of_heap h2 12, cell_frozen h2 12⟩ :
          y.cell? ⟨b, 7, none⟩ = some (.int .i64 c1.now) ∧ y.cell? ⟨b, 12, none⟩ = some X1.uP ∧ y.frozen? ⟨b, 12, none⟩ = false))
        clear hW3 hM3 p0c pf0 c6
        refine wp_region_facts2 14 [[], [], [1], [2], [3], [4], [], [], [7], [8], [9], [6, 10], [11], [5, 12]] [0, 13] 13 [] Ext ((GrB X1.uP.ownBlock)) (FL [Is (.pointer (some ⟨b, 0, none⟩)), Is (.pointer (some ⟨b, 0, none⟩)), Is (.pointer (some ⟨b, 0, none⟩)), Is (.pointer (some ⟨b, 11, none⟩)), Is (.pointer (some ⟨b, 12, none⟩)), Is (X1.uP), Is (.int .i64 (sd : Int)), Is (.pointer (some ⟨b, 0, none⟩)), Is (.pointer (some ⟨b, 0, none⟩)), Is (.pointer (some ⟨b, 7, none⟩)), Is (.int .i64 c1.now), Is (.agg #[.int .i64 (sd : Int), .int .i64 c1.now]), OneN W3.heap.size [.int .i64 (sd : Int), .int .i64 c1.now] 62, RowG (b + 1) 62 2 (c1.plays.length + 1) (pairVs c1.plays ++ [.int .i64 (sd : Int), .int .i64 c1.now])]) (by kernel_rfl) (by kernel_rfl) (by kernel_rfl) (fun _ _ => GrB.ext) (fun _ _ _ => Ext.trans) Ext.refl (GrB.refl _) (fun _ _ _ => GrB.trans) (fun _ _ h => h.size) ?_ ?_ ⟨?_, ?_, ?_, ?_, ?_, ?_, ?_, ?_, ?_, ?_, ?_, ?_, ?_, ?_, trivial⟩ ?_
        · exact FL.mono ⟨Is.mono, Is.mono, Is.mono, Is.mono, Is.mono, Is.mono, Is.mono, Is.mono, Is.mono, Is.mono, Is.mono, Is.mono, OneN.mono, RowG.mono, trivial⟩
        · intro j v s t w w' hj hr
          match j, hj with
          | 0, _ => exact fun h => h
          | 1, _ => exact fun h => h
          | 2, _ => exact fun h => h
          | 3, _ => exact fun h => h
          | 4, _ => exact fun h => h
          | 5, _ => exact fun h => h
          | 6, _ => exact fun h => h
          | 7, _ => exact fun h => h
          | 8, _ => exact fun h => h
          | 9, _ => exact fun h => h
          | 10, _ => exact fun h => h
          | 11, _ => exact fun h => h
          | 12, _ => exact fun h => OneN.grow (s := s) (u := t) HRB.out hr h
          | 13, hj => exact absurd rfl hj
          | n + 14, _ => exact fun h => h
        · refine opF2_step ?_
          intro ys l0 h0 w' hr hs hf K hK
          clear hf
          clear hs
          simp only [fill, Act.put, dstO, List.take_succ_cons, List.take_zero, List.setIfInBounds_toArray, List.set_cons_zero, List.set_cons_succ, List.getElem?_cons_zero, Nat.zero_add, Nat.reduceAdd] at hK ⊢
          refine OpB.mk' ?_
          go_simp
          exact hK.out _ _ rfl (fun h => by cases h) (fun _ => Ext.refl _)
        · refine opF2_step ?_
          intro ys l0 h0 w' hr hs hf K hK
          clear hf
          clear hs
          simp only [fill, Act.put, dstO, List.take_succ_cons, List.take_zero, List.setIfInBounds_toArray, List.set_cons_zero, List.set_cons_succ, List.getElem?_cons_zero, List.getElem?_cons_succ, Nat.zero_add, Nat.reduceAdd] at hK ⊢
          refine OpB.mk' ?_
          go_simp
          exact hK.out _ _ rfl (fun h => by cases h) (fun _ => Ext.refl _)
        · refine opF2_step ?_
          intro ys l0 h0 w' hr hs hf K hK
          obtain ⟨f0, -⟩ := hf
          have e0 : ys 1 = _ := f0
          clear hs
          simp only [fill, Act.put, dstO, List.take_succ_cons, List.take_zero, List.setIfInBounds_toArray, List.set_cons_zero, List.set_cons_succ, List.getElem?_cons_zero, List.getElem?_cons_succ, Nat.zero_add, Nat.reduceAdd] at hK ⊢
          simp only [e0] at hK ⊢
          clear e0 f0
          refine OpB.mk' ?_
          go_simp
          exact hK.out _ _ rfl (fun h => by cases h) (fun _ => Ext.refl _)
        · refine opF2_step ?_
          intro ys l0 h0 w' hr hs hf K hK
          obtain ⟨f0, -⟩ := hf
          have e0 : ys 2 = _ := f0
          clear hs
          simp only [fill, Act.put, dstO, List.take_succ_cons, List.take_zero, List.setIfInBounds_toArray, List.set_cons_zero, List.set_cons_succ, List.getElem?_cons_zero, List.getElem?_cons_succ, Nat.zero_add, Nat.reduceAdd] at hK ⊢
          simp only [e0] at hK ⊢
          clear e0 f0
          refine OpB.mk' ?_
          go_simp
          exact hK.out _ _ rfl (fun h => by cases h) (fun _ => Ext.refl _)
        · refine opF2_step ?_
          intro ys l0 h0 w' hr hs hf K hK
          obtain ⟨f0, -⟩ := hf
          have e0 : ys 3 = _ := f0
          clear hs
          simp only [fill, Act.put, dstO, List.take_succ_cons, List.take_zero, List.setIfInBounds_toArray, List.set_cons_zero, List.set_cons_succ, List.getElem?_cons_zero, List.getElem?_cons_succ, Nat.zero_add, Nat.reduceAdd] at hK ⊢
          simp only [e0] at hK ⊢
          clear e0 f0
          refine OpB.mk' ?_
          go_simp
          exact hK.out _ _ rfl (fun h => by cases h) (fun _ => Ext.refl _)
        · refine opF2_step ?_
          intro ys l0 h0 w' hr hs hf K hK
          obtain ⟨f0, -⟩ := hf
          have e0 : ys 4 = _ := f0
          obtain ⟨j7, j12, -⟩ := HKC.out w' ((GrB.ext ((Ext.refl W3).drew)).trans hr)
          clear hs
          simp only [fill, Act.put, dstO, List.take_succ_cons, List.take_zero, List.setIfInBounds_toArray, List.set_cons_zero, List.set_cons_succ, List.getElem?_cons_zero, List.getElem?_cons_succ, Nat.zero_add, Nat.reduceAdd] at hK ⊢
          simp only [e0] at hK ⊢
          clear e0 f0
          refine OpB.mk' ?_
          go_simp
          exact hK.out _ _ rfl (fun h => by cases h) (fun _ => Ext.refl _)
        · refine opF2_step ?_
          intro ys l0 h0 w' hr hs hf K hK
          clear hf
          clear hs
          simp only [fill, Act.put, dstO, List.take_succ_cons, List.take_zero, List.setIfInBounds_toArray, List.set_cons_zero, List.set_cons_succ, List.getElem?_cons_zero, List.getElem?_cons_succ, Nat.zero_add, Nat.reduceAdd] at hK ⊢
          refine OpB.mk' ?_
          go_simp
          exact hK.out _ _ rfl (fun h => by cases h) (fun _ => Ext.refl _)
        · refine opF2_step ?_
          intro ys l0 h0 w' hr hs hf K hK
          clear hf
          clear hs
          simp only [fill, Act.put, dstO, List.take_succ_cons, List.take_zero, List.setIfInBounds_toArray, List.set_cons_zero, List.set_cons_succ, List.getElem?_cons_zero, List.getElem?_cons_succ, Nat.zero_add, Nat.reduceAdd] at hK ⊢
          refine OpB.mk' ?_
          go_simp
          exact hK.out _ _ rfl (fun h => by cases h) (fun _ => Ext.refl _)
        · refine opF2_step ?_
          intro ys l0 h0 w' hr hs hf K hK
          obtain ⟨f0, -⟩ := hf
          have e0 : ys 7 = _ := f0
          clear hs
          simp only [fill, Act.put, dstO, List.take_succ_cons, List.take_zero, List.setIfInBounds_toArray, List.set_cons_zero, List.set_cons_succ, List.getElem?_cons_zero, List.getElem?_cons_succ, Nat.zero_add, Nat.reduceAdd] at hK ⊢
          simp only [e0] at hK ⊢
          clear e0 f0
          refine OpB.mk' ?_
          go_simp
          exact hK.out _ _ rfl (fun h => by cases h) (fun _ => Ext.refl _)
        · refine opF2_step ?_
          intro ys l0 h0 w' hr hs hf K hK
          obtain ⟨f0, -⟩ := hf
          have e0 : ys 8 = _ := f0
          clear hs
          simp only [fill, Act.put, dstO, List.take_succ_cons, List.take_zero, List.setIfInBounds_toArray, List.set_cons_zero, List.set_cons_succ, List.getElem?_cons_zero, List.getElem?_cons_succ, Nat.zero_add, Nat.reduceAdd] at hK ⊢
          simp only [e0] at hK ⊢
          clear e0 f0
          refine OpB.mk' ?_
          go_simp
          exact hK.out _ _ rfl (fun h => by cases h) (fun _ => Ext.refl _)
        · refine opF2_step ?_
          intro ys l0 h0 w' hr hs hf K hK
          obtain ⟨f0, -⟩ := hf
          have e0 : ys 9 = _ := f0
          obtain ⟨j7, j12, -⟩ := HKC.out w' ((GrB.ext ((Ext.refl W3).drew)).trans hr)
          clear hs
          simp only [fill, Act.put, dstO, List.take_succ_cons, List.take_zero, List.setIfInBounds_toArray, List.set_cons_zero, List.set_cons_succ, List.getElem?_cons_zero, List.getElem?_cons_succ, Nat.zero_add, Nat.reduceAdd] at hK ⊢
          simp only [e0] at hK ⊢
          clear e0 f0
          refine OpB.mk' ?_
          go_simp
          exact hK.out _ _ rfl (fun h => by cases h) (fun _ => Ext.refl _)
        · refine opF2_step ?_
          intro ys l0 h0 w' hr hs hf K hK
          obtain ⟨f0, f1, -⟩ := hf
          have e0 : ys 6 = _ := f0
          have e1 : ys 10 = _ := f1
          clear hs
          simp only [fill, Act.put, dstO, List.take_succ_cons, List.take_zero, List.setIfInBounds_toArray, List.set_cons_zero, List.set_cons_succ, List.getElem?_cons_zero, List.getElem?_cons_succ, Nat.zero_add, Nat.reduceAdd] at hK ⊢
          simp only [e0, e1] at hK ⊢
          clear e0 e1 f0 f1
          refine OpB.mk' ?_
          go_simp
          exact hK.out _ _ rfl (fun h => by cases h) (fun _ => Ext.refl _)
        · refine opF2_step ?_
          intro ys l0 h0 w' hr hs hf K hK
          obtain ⟨f0, -⟩ := hf
          have e0 : ys 11 = _ := f0
          clear hs
          simp only [fill, Act.put, dstO, List.take_succ_cons, List.take_zero, List.setIfInBounds_toArray, List.set_cons_zero, List.set_cons_succ, List.getElem?_cons_zero, List.getElem?_cons_succ, Nat.zero_add, Nat.reduceAdd] at hK ⊢
          simp only [e0] at hK ⊢
          clear e0 f0
          refine OpB.mk' ?_
          go_simp
          exact hK.out _ _ ⟨_, rfl, by have := hr.size; exact this, heap_new _ _⟩ (fun h => by cases h) (fun _ => Ext.alloc (Ext.refl _) _)
        · refine opF2_step ?_
          intro ys l0 h0 w' hr hs hf K hK
          obtain ⟨f0, f1, -⟩ := hf
          have e0 : ys 5 = _ := f0
          obtain ⟨g0, e1, hB0, hg2⟩ := f1
          have hE0 := hs (Or.inl rfl)
          clear hs
          simp only [fill, Act.put, dstO, List.take_succ_cons, List.take_zero, List.setIfInBounds_toArray, List.set_cons_zero, List.set_cons_succ, List.getElem?_cons_zero, List.getElem?_cons_succ, Nat.zero_add, Nat.reduceAdd] at hK ⊢
          simp only [e0, e1] at hK ⊢
          clear e0 e1 f0
          refine OpB.mkG rfl ?_
          refine wp_append_lies _ (.tmp 60) (.tmp 67) 56 rfl (b + 1) 62 i0 _ 2 16 Tryd.underlying56 HI0.out.1 HI0.out.2.1 HI0.out.2.2.1 HI0.out.2.2.2 rfl (by decide) _ c1.plays.length _ rfl (ownsRow_ext HM3.out.pl ((Ext.refl _).drew.trans hE0)) ⟨g0, 0, none⟩ 1 1 [.int .i64 (sd : Int), .int .i64 c1.now] rfl rfl (one_news2 hg2) (by intro u hu; simp at hu; rcases hu with rfl | rfl <;> rfl) (by decide) (by unfold maxLen; omega) (by omega) (by have := hE0.size; have : (W3.drew).heap.size = W3.heap.size := rfl; omega) _ rfl ?_
          intro g4 cap4 w4 ho4 hg4 _ _
          exact hK.out _ _ ⟨g4, cap4, rfl, ho4⟩ (fun _ => hg4) (fun h => absurd rfl h)
        intro ys l0 h0 w2 hr hf hsp
        obtain ⟨f0, f13, -⟩ := hf
        have e0 : ys 0 = _ := f0
        obtain ⟨g4, cap4, e13, ho4⟩ := f13
        rw [e13] at ho4
        simp only [fill, Act.put, List.take_succ_cons, List.take_zero, List.setIfInBounds_toArray, List.set_cons_zero, List.set_cons_succ, Nat.zero_add, Nat.reduceAdd, List.drop_succ_cons, List.drop_zero]
        rw [e0]
        clear e0 f0
        rw [e13]
        clear hsp
        have hG := (GrB.ext ((Ext.refl W3).drew)).trans hr
        obtain ⟨-, j12, jf12⟩ := HKC.out w2 hG
        have HG := Lib.hid hG
        have HO4 := Lib.hid ho4
        clear hr hG ho4 e13 HKC
        go_upto_region 13 with (fail)
        obtain ⟨W5, hW5⟩ : ∃ W5, W5 = w2.setCell ⟨b, 12, none⟩ (.slice (some ⟨g4, 0, none⟩) (c1.plays.length + 1) cap4) := ⟨_, rfl⟩
        have hB2 := HM3.out.B.grow HG.out (fun k hk => by have := HRL.out k hk; omega)
        have hM5 : CarM w0 W5 b gp T P { c1 with pins := c1.pins.set sd false, plays := c1.plays ++ [((sd : Int), c1.now)] } { X1 with uP := .slice (some ⟨g4, 0, none⟩) (c1.plays.length + 1) cap4 } S := by
          rw [hW5]
          refine ⟨hB2.setB (i := 12) rfl hB2.q hB2.qb hB2.qc rfl, ownsRow_off (ownsRow_fr HM3.out.s (grown_fr HG.out) fun g hg => fun e => own_ne2 HM3.out.s HM3.out.pl (by decide) g hg e) (by omega), ?_, HM3.out.nS⟩
          have ho := HO4.out
          rw [show pairVs c1.plays ++ [.int .i64 (sd : Int), .int .i64 c1.now] = pairVs (c1.plays ++ [((sd : Int), c1.now)]) from (pairVs_snoc c1.plays ((sd : Int), c1.now)).symm] at ho
          show World.ownsRow _ _ _ _ _ (c1.plays ++ [((sd : Int), c1.now)]).length _
          rw [List.length_append, List.length_singleton]
          exact ownsRow_off ho (by omega)
        rw [← hW5]
        have HM5 := Lib.hid hM5
        clear hW5 hM5 hB2 HG HO4 HM3 HM2 HRB HRL j12 jf12
        go_upto_region 14 with (go_at_call 44; refine (HMK.out _ _ _ _ (sd : Int) HM5.out (by omega)).mono ?_; rintro e W6 ⟨rfl, X6, hM6⟩)
        have HM6 := Lib.hid hM6
        have HLA := Lib.hid (fun y (hy : Ext W6 y) => (by rw [HLN.out]; exact plast02 T sd _ y ((HV.out.ext hM6.B.e).ext hy) (by omega) (by omega) (by have := HPL.out; omega) : Calls Tryd.prog 54 #[.agg #[.slice P.pr T.recs.length P.cr, .int .i64 T.at_, .int .i64 T.way, .int .i64 T.step, .slice P.pp T.prs.length P.cp], .int .i64 sd] y (RetE (.int .i64 ln) y)))
        have HKC := Lib.hid (fun y (h : Ext W6 y) => (by
          have h2 := (hM6.ext h).B.m
          exact ⟨cell_of_heap h2 0, cell_of_heap h2 1, cell_of_heap h2 2, cell_of_heap h2 3, cell_of_heap h2 4, cell_of_heap h2 7⟩ :
          y.cell? ⟨b, 0, none⟩ = some (.slice P.pr T.recs.length P.cr) ∧ y.cell? ⟨b, 1, none⟩ = some (.int .i64 T.at_) ∧ y.cell? ⟨b, 2, none⟩ = some (.int .i64 T.way) ∧ y.cell? ⟨b, 3, none⟩ = some (.int .i64 T.step) ∧ y.cell? ⟨b, 4, none⟩ = some (.slice P.pp T.prs.length P.cp) ∧ y.cell? ⟨b, 7, none⟩ = some (.int .i64 c1.now)))
        have hw3 : IntKind.i64.wrap (c1.now + ln) = c1.now + ln := IntWalk.i64_in _ (by omega)
        clear hM6 HM5
        refine wp_region_facts 11 [[], [0], [1], [2], [], [4], [5], [6], [], [7, 8], [3, 9]] [0, 10] Ext (FL [Is (.pointer (some ⟨b, 0, none⟩)), Is (.pointer (some ⟨b, 0, none⟩)), Is (.pointer (some ⟨b, 7, none⟩)), Is (.int .i64 c1.now), Is (.pointer (some ⟨b, 0, none⟩)), Is (.pointer (some ⟨b, 0, none⟩)), Is (.pointer (some ⟨b, 0, none⟩)), Is (.agg #[.slice P.pr T.recs.length P.cr, .int .i64 T.at_, .int .i64 T.way, .int .i64 T.step, .slice P.pp T.prs.length P.cp]), Is (.int .i64 (sd : Int)), Is (.int .i64 ln), Is (.int .i64 (c1.now + ln))]) (by kernel_rfl) (by kernel_rfl) Ext.refl (fun _ _ _ => Ext.trans) (fun _ _ => Ext.size) (FL.mono ⟨Is.mono, Is.mono, Is.mono, Is.mono, Is.mono, Is.mono, Is.mono, Is.mono, Is.mono, Is.mono, Is.mono, trivial⟩) ⟨?_, ?_, ?_, ?_, ?_, ?_, ?_, ?_, ?_, ?_, ?_, trivial⟩ ?_
        · refine opF_step ?_
          intro ys l0 h0 w' hr hf K hK
          clear hf
          simp only [fill, Act.put, dstO, List.take_succ_cons, List.take_zero, List.setIfInBounds_toArray, List.set_cons_zero, List.set_cons_succ, List.getElem?_cons_zero, Nat.zero_add, Nat.reduceAdd] at hK ⊢
          refine OpB.mk' ?_
          go_simp
          exact hK.out _ _ rfl (Ext.refl _)
        · refine opF_step ?_
          intro ys l0 h0 w' hr hf K hK
          obtain ⟨f0, -⟩ := hf
          have e0 : ys 0 = _ := f0
          simp only [fill, Act.put, dstO, List.take_succ_cons, List.take_zero, List.setIfInBounds_toArray, List.set_cons_zero, List.set_cons_succ, List.getElem?_cons_zero, List.getElem?_cons_succ, Nat.zero_add, Nat.reduceAdd] at hK ⊢
          simp only [e0] at hK ⊢
          clear e0 f0
          refine OpB.mk' ?_
          go_simp
          exact hK.out _ _ rfl (Ext.refl _)
        · refine opF_step ?_
          intro ys l0 h0 w' hr hf K hK
          obtain ⟨f0, -⟩ := hf
          have e0 : ys 1 = _ := f0
          simp only [fill, Act.put, dstO, List.take_succ_cons, List.take_zero, List.setIfInBounds_toArray, List.set_cons_zero, List.set_cons_succ, List.getElem?_cons_zero, List.getElem?_cons_succ, Nat.zero_add, Nat.reduceAdd] at hK ⊢
          simp only [e0] at hK ⊢
          clear e0 f0
          refine OpB.mk' ?_
          go_simp
          exact hK.out _ _ rfl (Ext.refl _)
        · refine opF_step ?_
          intro ys l0 h0 w' hr hf K hK
          obtain ⟨f0, -⟩ := hf
          have e0 : ys 2 = _ := f0
          obtain ⟨j0, j1, j2, j3, j4, j7⟩ := HKC.out w' ((Ext.refl W6).drew.trans hr)
          simp only [fill, Act.put, dstO, List.take_succ_cons, List.take_zero, List.setIfInBounds_toArray, List.set_cons_zero, List.set_cons_succ, List.getElem?_cons_zero, List.getElem?_cons_succ, Nat.zero_add, Nat.reduceAdd] at hK ⊢
          simp only [e0] at hK ⊢
          clear e0 f0
          refine OpB.mk' ?_
          go_simp
          exact hK.out _ _ rfl (Ext.refl _)
        · refine opF_step ?_
          intro ys l0 h0 w' hr hf K hK
          clear hf
          simp only [fill, Act.put, dstO, List.take_succ_cons, List.take_zero, List.setIfInBounds_toArray, List.set_cons_zero, List.set_cons_succ, List.getElem?_cons_zero, List.getElem?_cons_succ, Nat.zero_add, Nat.reduceAdd] at hK ⊢
          refine OpB.mk' ?_
          go_simp
          exact hK.out _ _ rfl (Ext.refl _)
        · refine opF_step ?_
          intro ys l0 h0 w' hr hf K hK
          obtain ⟨f0, -⟩ := hf
          have e0 : ys 4 = _ := f0
          simp only [fill, Act.put, dstO, List.take_succ_cons, List.take_zero, List.setIfInBounds_toArray, List.set_cons_zero, List.set_cons_succ, List.getElem?_cons_zero, List.getElem?_cons_succ, Nat.zero_add, Nat.reduceAdd] at hK ⊢
          simp only [e0] at hK ⊢
          clear e0 f0
          refine OpB.mk' ?_
          go_simp
          exact hK.out _ _ rfl (Ext.refl _)
        · refine opF_step ?_
          intro ys l0 h0 w' hr hf K hK
          obtain ⟨f0, -⟩ := hf
          have e0 : ys 5 = _ := f0
          simp only [fill, Act.put, dstO, List.take_succ_cons, List.take_zero, List.setIfInBounds_toArray, List.set_cons_zero, List.set_cons_succ, List.getElem?_cons_zero, List.getElem?_cons_succ, Nat.zero_add, Nat.reduceAdd] at hK ⊢
          simp only [e0] at hK ⊢
          clear e0 f0
          refine OpB.mk' ?_
          go_simp
          exact hK.out _ _ rfl (Ext.refl _)
        · refine opF_step ?_
          intro ys l0 h0 w' hr hf K hK
          obtain ⟨f0, -⟩ := hf
          have e0 : ys 6 = _ := f0
          obtain ⟨j0, j1, j2, j3, j4, j7⟩ := HKC.out w' ((Ext.refl W6).drew.trans hr)
          simp only [fill, Act.put, dstO, List.take_succ_cons, List.take_zero, List.setIfInBounds_toArray, List.set_cons_zero, List.set_cons_succ, List.getElem?_cons_zero, List.getElem?_cons_succ, Nat.zero_add, Nat.reduceAdd] at hK ⊢
          simp only [e0] at hK ⊢
          clear e0 f0
          refine OpB.mk' ?_
          go_simp
          exact hK.out _ _ rfl (Ext.refl _)
        · refine opF_step ?_
          intro ys l0 h0 w' hr hf K hK
          clear hf
          simp only [fill, Act.put, dstO, List.take_succ_cons, List.take_zero, List.setIfInBounds_toArray, List.set_cons_zero, List.set_cons_succ, List.getElem?_cons_zero, List.getElem?_cons_succ, Nat.zero_add, Nat.reduceAdd] at hK ⊢
          refine OpB.mk' ?_
          go_simp
          exact hK.out _ _ rfl (Ext.refl _)
        · refine opF_step ?_
          intro ys l0 h0 w' hr hf K hK
          obtain ⟨f0, f1, -⟩ := hf
          have e0 : ys 7 = _ := f0
          have e1 : ys 8 = _ := f1
          simp only [fill, Act.put, dstO, List.take_succ_cons, List.take_zero, List.setIfInBounds_toArray, List.set_cons_zero, List.set_cons_succ, List.getElem?_cons_zero, List.getElem?_cons_succ, Nat.zero_add, Nat.reduceAdd] at hK ⊢
          simp only [e0, e1] at hK ⊢
          clear e0 e1 f0 f1
          refine OpB.mk' ?_
          go_simp
          refine (HLA.out w' ((Ext.refl W6).drew.trans hr)).mono ?_
          rintro e w2 ⟨rfl, hE2⟩
          exact hK.out _ _ rfl hE2
        · refine opF_step ?_
          intro ys l0 h0 w' hr hf K hK
          obtain ⟨f0, f1, -⟩ := hf
          have e0 : ys 3 = _ := f0
          have e1 : ys 9 = _ := f1
          simp only [fill, Act.put, dstO, List.take_succ_cons, List.take_zero, List.setIfInBounds_toArray, List.set_cons_zero, List.set_cons_succ, List.getElem?_cons_zero, List.getElem?_cons_succ, Nat.zero_add, Nat.reduceAdd] at hK ⊢
          simp only [e0, e1] at hK ⊢
          clear e0 e1 f0 f1
          refine OpB.mk' ?_
          go_simp
          exact hK.out _ _ rfl (Ext.refl _)
        intro ys l0 h0 w2 hr hf hsp
        obtain ⟨f0, f10, -⟩ := hf
        have e0 : ys 0 = _ := f0
        have e10 : ys 10 = _ := f10
        simp only [fill, Act.put, List.take_succ_cons, List.take_zero, List.setIfInBounds_toArray, List.set_cons_zero, List.set_cons_succ, Nat.zero_add, Nat.reduceAdd, List.drop_succ_cons, List.drop_zero]
        rw [e0, e10]
        clear e0 f0 e10 f10
        clear hsp
        have HM7 := Lib.hid (HM6.out.ext ((Ext.refl W6).drew.trans hr))
        clear hr HKC HLA HM6
        have c7 : w2.cell? ⟨b, 7, none⟩ = some (.int .i64 c1.now) := cell_of_heap HM7.out.B.m 7
        have f7 := cell_frozen HM7.out.B.m 7
        go_upto_region 15 with (fail)
        obtain ⟨W8, hW8⟩ : ∃ W8, W8 = w2.setCell ⟨b, 7, none⟩ (.int .i64 (c1.now + ln)) := ⟨_, rfl⟩
        have hM8 : CarM w0 W8 b gp T P { c1 with pins := c1.pins.set sd false, plays := c1.plays ++ [((sd : Int), c1.now)], now := c1.now + ln } X6 (S + 1) := by rw [hW8]; exact HM7.out.setB (i := 7) rfl HM7.out.B.q HM7.out.B.qb HM7.out.B.qc rfl rfl ⟨rfl, rfl, rfl, rfl⟩
        rw [← hW8]
        have HM8 := Lib.hid hM8
        have c7 : W8.cell? ⟨b, 7, none⟩ = some (.int .i64 (c1.now + ln)) := cell_of_heap hM8.B.m 7
        have c14 : W8.cell? ⟨b, 14, none⟩ = some (.int .i64 X6.en) := cell_of_heap hM8.B.m 14
        have f14 := cell_frozen hM8.B.m 14
        clear hW8 hM8 HM7 f7
        go_upto_region 16 with (fail)
        obtain ⟨W9, hW9⟩ : ∃ W9, W9 = W8.setCell ⟨b, 14, none⟩ (.int .i64 (c1.now + ln)) := ⟨_, rfl⟩
        have hM9 : CarM w0 W9 b gp T P { c1 with pins := c1.pins.set sd false, plays := c1.plays ++ [((sd : Int), c1.now)], now := c1.now + ln } { X6 with en := c1.now + ln } (S + 1) := by rw [hW9]; exact HM8.out.setB (i := 14) rfl HM8.out.B.q HM8.out.B.qb HM8.out.B.qc rfl rfl ⟨rfl, rfl, rfl, rfl⟩
        rw [← HPY.out] at hM9
        rw [← hW9]
        have HM9 := Lib.hid hM9
        have hq0 : 0 ≤ (playC T.recs c1).now ∧ (playC T.recs c1).now ≤ 1000000000 := by rw [HPY.out]; show 0 ≤ c1.now + ln ∧ c1.now + ln ≤ 1000000000; omega
        clear hW9 hM9 HM8 c7 c14 f14
        go_upto_region 17 with (go_at_call 44; refine (HMK.out _ _ _ _ (-1) HM9.out (by omega)).mono ?_; rintro e WA ⟨rfl, XA, hMA⟩)
        have HN9 := Lib.hid (HNX.out _ _ _ _ hMA ⟨by omega, hq0.1, hq0.2⟩ (HO.out.play T.recs))
        clear hMA HM9 hq0
        go_wp2_with (go_at_call 55; refine HN9.out.mono ?_; rintro e w9 ⟨rfl, X9, hM9⟩)
        go_ret
        rw [HAC.out]
        exact ⟨rfl, X9, hM9.mono (by omega)⟩
      · have hpf : c1.pins[sd] = false := by simpa using hpn
        rw [hpf] at p0c
        have HPY := Lib.hid (show playC T.recs c1 = c1 from by
          unfold playC
          rw [HSD.out, Int.toNat_natCast, List.getD_eq_getElem?_getD, List.getElem?_eq_getElem hsb, Option.getD_some, if_neg hpn])
        have HN9 := Lib.hid (HNX.out _ _ _ _ HM2.out ⟨by omega, hn0, by omega⟩ HO.out)
        clear hpn hpf
        go_wp2_with (go_at_call 55; refine HN9.out.mono ?_; rintro e w9 ⟨rfl, X9, hM9⟩)
        go_ret
        rw [HAC.out, HPY.out]
        exact ⟨rfl, X9, hM9.mono (by omega)⟩
end Go.Proofs.YtppncdbhebgcaaaDoor
namespace Go.Proofs.YtppncdbhebgcaaaDoor
open Go.RowKit

def swpP (l : List (Int × Int)) (i j : Nat) : List (Int × Int) := (l.set i (l.getD j (0, 0))).set j (l.getD i (0, 0))
theorem swpP_len (l : List (Int × Int)) (i j : Nat) : (swpP l i j).length = l.length := by simp [swpP]
theorem getD_setP (l : List (Int × Int)) (i : Nat) (v : Int × Int) (k : Nat) (h : i < l.length) : (l.set i v).getD k (0, 0) = if i = k then v else l.getD k (0, 0) := by
  rw [List.getD_eq_getElem?_getD, List.getElem?_set]
  by_cases e : i = k
  · rw [if_pos e, if_pos e, if_pos h]; rfl
  · rw [if_neg e, if_neg e, List.getD_eq_getElem?_getD]
theorem swpP_get {l : List (Int × Int)} {i j : Nat} (hi : i < l.length) (hj : j < l.length) (k : Nat) : (swpP l i j).getD k (0, 0) = if j = k then l.getD i (0, 0) else if i = k then l.getD j (0, 0) else l.getD k (0, 0) := by
  unfold swpP
  rw [getD_setP _ _ _ _ (by rw [List.length_set]; exact hj), getD_setP _ _ _ _ hi]
theorem swpP_perm {l : List (Int × Int)} {i j : Nat} (hi : i < l.length) (hj : j < l.length) : (swpP l i j).Perm l := by
  unfold swpP
  rw [List.getD_eq_getElem?_getD, List.getD_eq_getElem?_getD, List.getElem?_eq_getElem hi, List.getElem?_eq_getElem hj]
  exact List.set_set_perm hi hj
/-- the first i are sorted -/
def SrtP (R : (Int × Int) → (Int × Int) → Prop) (l : List (Int × Int)) (i : Nat) : Prop := ∀ a b, a < b → b < i → R (l.getD a (0, 0)) (l.getD b (0, 0))
/-- the first ones are sorted but for the one at j, which is still on its way -/
structure InsP (R : (Int × Int) → (Int × Int) → Prop) (l : List (Int × Int)) (i j : Nat) : Prop where
  ji : j ≤ i
  il : i < l.length
  pr : ∀ a b, a < b → b ≤ i → b ≠ j → R (l.getD a (0, 0)) (l.getD b (0, 0))
section
variable {R : (Int × Int) → (Int × Int) → Prop} {l : List (Int × Int)} {i j : Nat}
theorem InsP.start (h : SrtP R l i) (hi : i < l.length) : InsP R l i i := ⟨Nat.le_refl _, hi, fun a b hab hb hne => h a b hab (by omega)⟩
theorem InsP.stop (hT : ∀ x y z, R x y → R y z → R x z) (h : InsP R l i j) (hs : j = 0 ∨ R (l.getD (j - 1) (0, 0)) (l.getD j (0, 0))) : SrtP R l (i + 1) := by
  intro a b hab hb
  by_cases e : b = j
  · subst e
    rcases hs with h0 | h1
    · omega
    · by_cases c : a = b - 1
      · rw [c]; exact h1
      · exact hT _ _ _ (h.pr a (b - 1) (by omega) (by omega) (by omega)) h1
  · exact h.pr a b hab (by omega) e
theorem InsP.step (h : InsP R l i (j + 1)) (hr : R (l.getD (j + 1) (0, 0)) (l.getD j (0, 0))) : InsP R (swpP l (j + 1) j) i j := by
  have hi := h.il
  have hji := h.ji
  refine ⟨by omega, by rw [swpP_len]; exact hi, fun a b hab hb hne => ?_⟩
  rw [swpP_get (by omega) (by omega), swpP_get (by omega) (by omega)]
  by_cases b1 : j + 1 = b
  · subst b1
    rw [if_neg (by omega : ¬j = j + 1), if_pos rfl]
    by_cases a1 : j = a
    · rw [if_pos a1]; exact hr
    · rw [if_neg a1, if_neg (by omega)]
      exact h.pr a j (by omega) (by omega) (by omega)
  · have hb' : ¬j = b := fun e => hne e.symm
    rw [if_neg hb', if_neg b1]
    by_cases a1 : j = a
    · rw [if_pos a1]; exact h.pr (j + 1) b (by omega) hb (fun e => b1 e.symm)
    · rw [if_neg a1]
      by_cases a2 : j + 1 = a
      · rw [if_pos a2]; exact h.pr j b (by omega) hb (fun e => b1 e.symm)
      · rw [if_neg a2]; exact h.pr a b hab hb (fun e => b1 e.symm)
theorem SrtP.pairwise (h : SrtP R l l.length) : l.Pairwise R := by
  rw [List.pairwise_iff_getElem]
  intro a b ha hb hab
  have := h a b hab hb
  rwa [List.getD_eq_getElem?_getD, List.getD_eq_getElem?_getD, List.getElem?_eq_getElem ha, List.getElem?_eq_getElem hb] at this
end
theorem getP_at {l : List (Int × Int)} {i : Nat} (h : i < l.length) : l.getD i (0, 0) = l[i] := by
  rw [List.getD_eq_getElem?_getD, List.getElem?_eq_getElem h]; rfl
theorem ownsRow_cellP {w : World} {B g n c i : Nat} {e : TypeId} {l : List (Int × Int)} (h : w.ownsRow B e 2 (.slice (some ⟨g, 0, none⟩) n c) n (pairVs l)) (hi : i < l.length) :
    w.cell? ⟨g, i * 2, none⟩ = some (.int .i64 l[i].1) ∧ w.cell? ⟨g, i * 2 + 1, none⟩ = some (.int .i64 l[i].2) ∧ w.frozen? ⟨g, i * 2, none⟩ = false ∧ w.frozen? ⟨g, i * 2 + 1, none⟩ = false := by
  have hn : n = l.length := by have := h.1; rw [pairVs_len] at this; omega
  have hat : ∀ j, j < n * 2 → w.cell? ⟨g, j, none⟩ = (pairVs l)[j]? := by
    intro j hj
    rcases h.2 with ⟨hv, h0⟩ | ⟨g', cap, cur, hv, hB, hg, hc, hm, hs, hx⟩
    · cases hv
    · cases hv
      rw [cell_of_heap hg, ← hx, List.getElem?_take, if_pos hj, Array.getElem?_toList]
  refine ⟨?_, ?_, ownsRow_frozen h, ownsRow_frozen h⟩
  · rw [hat _ (by omega)]; exact pairVs_fst hi
  · rw [hat _ (by omega)]; exact pairVs_snd hi
theorem ownsRow_setP {w : World} {B g n c i : Nat} {e : TypeId} {l : List (Int × Int)} {a : Int × Int} (h : w.ownsRow B e 2 (.slice (some ⟨g, 0, none⟩) n c) n (pairVs l)) :
    ((w.setCell ⟨g, i * 2, none⟩ (.int .i64 a.1)).setCell ⟨g, i * 2 + 1, none⟩ (.int .i64 a.2)).ownsRow B e 2 (.slice (some ⟨g, 0, none⟩) n c) n (pairVs (l.set i a)) := by
  have h2 := ownsRow_setV (i := i * 2 + 1) (u := .int .i64 a.2) (ownsRow_setV (i := i * 2) (u := .int .i64 a.1) h)
  rwa [pairVs_set] at h2
set_option maxRecDepth 20000 in
theorem times_less (x y : Int × Int) (w : World) : Calls Tryd.prog 43 #[.agg #[.int .i64 x.1, .int .i64 x.2], .agg #[.int .i64 y.1, .int .i64 y.2]] w (RetE (.int .i64 (wrap64 (x.2 - y.2))) w) := by
  obtain ⟨x1, hx1⟩ : ∃ u, u = x.1 := ⟨_, rfl⟩
  obtain ⟨x2, hx2⟩ : ∃ u, u = x.2 := ⟨_, rfl⟩
  obtain ⟨y1, hy1⟩ : ∃ u, u = y.1 := ⟨_, rfl⟩
  obtain ⟨y2, hy2⟩ : ∃ u, u = y.2 := ⟨_, rfl⟩
  rw [← hx1, ← hx2, ← hy1, ← hy2]
  clear hx1 hx2 hy1 hy2
  go_enter Tryd.func43, Tryd.ntmps43
  go_wp2
  go_ret
  exact RetE.fin (by first | exact Ext.alloc (Ext.alloc (Ext.refl _) _) _ | exact (by repeat (first | exact Ext.refl _ | assumption | refine Ext.drewN ?_ _ | refine Ext.drew ?_ | refine Ext.alloc ?_ _))) rfl
/-- a slice of ints of one's own, sorted in its place -/
def RetScP (R : (Int × Int) → (Int × Int) → Prop) (B g n cap : Nat) (l : List (Int × Int)) (w : World) (e : Ending) (w' : World) : Prop :=
  e = .returned (.tuple #[]) ∧ ∃ l', l'.Perm l ∧ l'.Pairwise R ∧ Ups g w w' ∧ w'.ownsRow B 77 2 (.slice (some ⟨g, 0, none⟩) n cap) n (pairVs l')

set_option maxRecDepth 20000 in
set_option maxHeartbeats 3200000 in
theorem insCP (B g n cap : Nat) (l : List (Int × Int)) (hl : l.length = n) (hn : n ≤ 1000) (w : World) (hO : w.ownsRow B 77 2 (.slice (some ⟨g, 0, none⟩) n cap) n (pairVs l)) (R : (Int × Int) → (Int × Int) → Prop) (hRT : ∀ x y z, R x y → R y z → R x z) (cf : (Int × Int) → (Int × Int) → Int) (h1 : ∀ x ∈ l, ∀ y ∈ l, cf x y < 0 → R x y) (h2 : ∀ x ∈ l, ∀ y ∈ l, ¬cf x y < 0 → R y x) (hcf : ∀ x ∈ l, ∀ y ∈ l, ∀ z, Ups g w z → Calls Tryd.prog 43 #[.agg #[.int .i64 x.1, .int .i64 x.2], .agg #[.int .i64 y.1, .int .i64 y.2]] z (RetE (.int .i64 (cf x y)) z)) :
    Calls Tryd.prog 58 #[.slice (some ⟨g, 0, none⟩) n cap, .int .i64 0, .int .i64 n, .func (.func 43) #[] #[]] w (RetScP R B g n cap l w) := by
  have HRT := Lib.hid hRT
  have H1 := Lib.hid h1
  have H2 := Lib.hid h2
  have HCF := Lib.hid hcf
  clear hRT h1 h2 hcf
  have HO := Lib.hid hO
  have HL : EqS l.length n := ⟨hl⟩
  clear hO hl
  go_enter Tryd.func58, Tryd.ntmps58
  go_wp2
  go_loopw [8] (fun a wr => ∃ (i : Nat) (m : List (Int × Int)), a = .int .i64 i ∧ 1 ≤ i ∧ i ≤ n + 1 ∧ m.length = n ∧ m.Perm l ∧ SrtP R m (min i n) ∧ Ups g w wr ∧ wr.ownsRow B 77 2 (.slice (some ⟨g, 0, none⟩) n cap) n (pairVs m)) (fun a _ => n + 1 - (intOf a).toNat)
  case atStart => exact ⟨1, l, rfl, Nat.le_refl _, by omega, HL.out, List.Perm.refl _, fun a b hab hb => by omega, Ups.refl _ _, HO.out⟩
  case round =>
    obtain ⟨i, m, rfl, hi1, hin, hml, hp, hs, hU, hO⟩ := hrel
    by_cases hlt : i < n
    · have hlt' : (i : Int) < (n : Int) := by omega
      have HSI := Lib.hid (InsP.start (R := R) (by rw [Nat.min_eq_left (by omega)] at hs; exact hs) (show i < m.length by omega))
      have HM : EqS m.length n := ⟨hml⟩
      have HP := Lib.hid hp
      have HU := Lib.hid hU
      have HO1 := Lib.hid hO
      clear hml hp hs hU hO
      go_wp2
      go_loopw [9] (fun a wr2 => ∃ (j : Nat) (k : List (Int × Int)), a = .int .i64 j ∧ k.length = n ∧ k.Perm l ∧ InsP R k i j ∧ Ups g w wr2 ∧ wr2.ownsRow B 77 2 (.slice (some ⟨g, 0, none⟩) n cap) n (pairVs k)) (fun a _ => (intOf a).toNat)
      case atStart => exact ⟨i, m, rfl, HM.out, HP.out, HSI.out, HU.out, HO1.out⟩
      case round =>
        obtain ⟨j, k, rfl, hkl, hp, hI, hU, hO⟩ := hrel
        have hji := hI.ji
        have HKL : EqS k.length n := ⟨hkl⟩
        have HI := Lib.hid hI
        have HP2 := Lib.hid hp
        have HU2 := Lib.hid hU
        have HO2 := Lib.hid hO
        clear hkl hp hI hU
        by_cases hj0 : j = 0
        · subst hj0
          have HST := Lib.hid (InsP.stop (R := R) HRT.out HI.out (Or.inl rfl))
          obtain ⟨x0, hx0⟩ := ExtW.of (Ext.refl wr)
          clear hO
          conv => arg 5; rw [hx0]
          have HX := Lib.hid hx0
          clear hx0
          go_upto_region 4 with (fail)
          refine wp_region_extW (by kernel_rfl) (by kernel_rfl) ?_
          repeat (go_big_quiet_step (fail))
          refine wpQuiet_nil ?_
          rintro _ ⟨x2, rfl⟩
          have hE2 : Ext wr x2.w := x2.h
          have HE2 := Lib.hid hE2
          clear hE2
          go_wp2
          go_roundw
          case rel => exact ⟨i + 1, k, by simp, by omega, by omega, HKL.out, HP2.out, by rw [Nat.min_eq_left (by omega)]; exact HST.out, HU2.out.trans (Ups.ext HE2.out), ownsRow_ext HO2.out HE2.out⟩
          case measure => simp [intOf]; omega
        · obtain ⟨p, rfl⟩ : ∃ p, j = p + 1 := ⟨j - 1, by omega⟩
          have hj1 : (0 : Int) < (p : Int) + 1 := by omega
          have hpn : p + 1 < k.length := by have := HKL.out; omega
          obtain ⟨c1, d1, z1, -⟩ := ownsRow_cellP hO (i := p + 1) hpn
          obtain ⟨c0, d0, z0, -⟩ := ownsRow_cellP hO (i := p) (by omega)
          rw [← getP_at hpn] at c1 d1
          rw [← getP_at (show p < k.length by omega)] at c0 d0
          have hstep := HI.out.step
          have hstop := InsP.stop (R := R) HRT.out HI.out
          rw [show p + 1 - 1 = p from rfl] at hstop
          have hperm := swpP_perm hpn (show p < k.length by omega)
          have hswp : swpP k (p + 1) p = (k.set (p + 1) (k.getD p (0, 0))).set p (k.getD (p + 1) (0, 0)) := rfl
          have hbm : k.getD (p + 1) (0, 0) ∈ l := HP2.out.subset (by rw [getP_at hpn]; exact List.getElem_mem hpn)
          have ham : k.getD p (0, 0) ∈ l := HP2.out.subset (by rw [getP_at (show p < k.length by omega)]; exact List.getElem_mem (show p < k.length by omega))
          obtain ⟨b, hb⟩ : ∃ b, b = k.getD (p + 1) (0, 0) := ⟨_, rfl⟩
          obtain ⟨a, ha⟩ : ∃ a, a = k.getD p (0, 0) := ⟨_, rfl⟩
          rw [← hb] at hbm
          rw [← ha] at ham
          have hr1 := H1.out b hbm a ham
          have hr2 := H2.out b hbm a ham
          have hcx := fun x : ExtW wr => ExtW.call (x := x) (HCF.out b hbm a ham x.w (HU2.out.trans (Ups.ext x.h)))
          obtain ⟨cv, hcv⟩ : ∃ cv, cv = cf b a := ⟨_, rfl⟩
          rw [← hcv] at hr1 hr2 hcx
          have HR1 := Lib.hid hr1
          have HR2 := Lib.hid hr2
          have HLS := Lib.hid hcx
          clear hcv hr1 hr2 hcx hbm ham
          rw [← hb, ← ha] at hstep hstop hswp
          rw [← hb] at c1 d1
          rw [← ha] at c0 d0
          have HST := Lib.hid hstep
          have HSP := Lib.hid hstop
          have HPM := Lib.hid hperm
          have HSW := Lib.hid hswp
          have k1 := ExtW.cell c1
          have k0 := ExtW.cell c0
          have k3 := ExtW.cell d1
          have k2 := ExtW.cell d0
          have hlt1 : (p : Int) + 1 < (n : Int) := by have := HKL.out; omega
          have hlt0 : (p : Int) < (n : Int) := by omega
          have hw0 : IntKind.i64.wrap (p : Int) = (p : Int) := IntWalk.i64_in _ (by omega)
          have hp0 : (0 : Int) ≤ (p : Int) + 1 := by omega
          have hpt : ((p : Int) + 1).toNat = p + 1 := by omega
          obtain ⟨x0, hx0⟩ := ExtW.of (Ext.refl wr)
          clear hO hb ha hstep hstop hperm hswp c0 c1 d0 d1 z0 z1 hj0
          conv => arg 5; rw [hx0]
          have HX := Lib.hid hx0
          clear hx0
          by_cases hba : cv < 0
          · go_upto_region 4 with (fail)
            refine wp_region_extW (by kernel_rfl) (by kernel_rfl) ?_
            repeat (go_big_quiet_step ((go_at_call 43; exact HLS.out _)))
            refine wpQuiet_nil ?_
            rintro _ ⟨x2, rfl⟩
            obtain ⟨W4, hW4⟩ : ∃ W4, W4 = x2.w := ⟨_, rfl⟩
            have hE4 : Ext wr W4 := by rw [hW4]; exact x2.h
            rw [← hW4]
            have HE4 := Lib.hid hE4
            have HO4 := Lib.hid (ownsRow_ext HO2.out hE4)
            have HKC := Lib.hid (fun y (h : Ext W4 y) => (by
              have h3 := ownsRow_ext HO4.out h
              obtain ⟨-, -, z1, z2⟩ := ownsRow_cellP h3 (i := p + 1) hpn
              exact ⟨(k1 ⟨y, hE4.trans h⟩), (k3 ⟨y, hE4.trans h⟩), (k0 ⟨y, hE4.trans h⟩), (k2 ⟨y, hE4.trans h⟩), z1, z2, h3⟩ :
              y.cell? ⟨g, (p + 1) * 2, none⟩ = some (.int .i64 b.1) ∧ y.cell? ⟨g, (p + 1) * 2 + 1, none⟩ = some (.int .i64 b.2) ∧ y.cell? ⟨g, p * 2, none⟩ = some (.int .i64 a.1) ∧ y.cell? ⟨g, p * 2 + 1, none⟩ = some (.int .i64 a.2) ∧ y.frozen? ⟨g, (p + 1) * 2, none⟩ = false ∧ y.frozen? ⟨g, (p + 1) * 2 + 1, none⟩ = false ∧ y.ownsRow B 77 2 (.slice (some ⟨g, 0, none⟩) n cap) n (pairVs k)))
            clear hW4 hE4 k0 k1 k2 k3 HLS HX
            go_upto_region 6 with (fail)
            refine wp_region_facts2 16 [[], [], [], [], [3], [], [], [6], [5, 7], [8], [], [], [10, 11], [12], [0, 1], [14, 9]] [2, 4, 13, 15] 15 [9, 13] Ext (Ups g) (FL [Is (.slice (some ⟨g, 0, none⟩) n cap), Is (.int .i64 ((p : Int) + 1)), Is (.slice (some ⟨g, 0, none⟩) n cap), Is (.int .i64 ((p : Int) + 1)), Is (.int .i64 (p : Int)), Is (.slice (some ⟨g, 0, none⟩) n cap), Is (.int .i64 ((p : Int) + 1)), Is (.int .i64 (p : Int)), Is (.pointer (some ⟨g, p * 2, none⟩)), Is (.agg #[.int .i64 a.1, .int .i64 a.2]), Is (.slice (some ⟨g, 0, none⟩) n cap), Is (.int .i64 ((p : Int) + 1)), Is (.pointer (some ⟨g, (p + 1) * 2, none⟩)), Is (.agg #[.int .i64 b.1, .int .i64 b.2]), Is (.pointer (some ⟨g, (p + 1) * 2, none⟩)), fun _ _ _ w => w.ownsRow B 77 2 (.slice (some ⟨g, 0, none⟩) n cap) n (pairVs (k.set (p + 1) a))]) (by kernel_rfl) (by kernel_rfl) (by kernel_rfl) (fun _ _ => Ups.ext) (fun _ _ _ => Ext.trans) Ext.refl (Ups.refl _) (fun _ _ _ => Ups.trans) (fun _ _ h => h.size) ?_ ?_ ⟨?_, ?_, ?_, ?_, ?_, ?_, ?_, ?_, ?_, ?_, ?_, ?_, ?_, ?_, ?_, ?_, trivial⟩ ?_
            · exact FL.mono ⟨Is.mono, Is.mono, Is.mono, Is.mono, Is.mono, Is.mono, Is.mono, Is.mono, Is.mono, Is.mono, Is.mono, Is.mono, Is.mono, Is.mono, Is.mono, fun _ _ _ _ _ h hb => ownsRow_ext hb h, trivial⟩
            · intro j v s t w w' hj hr
              match j, hj with
              | 0, _ => exact fun h => h
              | 1, _ => exact fun h => h
              | 2, _ => exact fun h => h
              | 3, _ => exact fun h => h
              | 4, _ => exact fun h => h
              | 5, _ => exact fun h => h
              | 6, _ => exact fun h => h
              | 7, _ => exact fun h => h
              | 8, _ => exact fun h => h
              | 9, _ => exact fun h => h
              | 10, _ => exact fun h => h
              | 11, _ => exact fun h => h
              | 12, _ => exact fun h => h
              | 13, _ => exact fun h => h
              | 14, _ => exact fun h => h
              | 15, hj => exact absurd rfl hj
              | n + 16, _ => exact fun h => h
            · refine opF2_step ?_
              intro ys l0 h0 w' hr hs hf K hK
              clear hf
              clear hs
              simp only [fill, Act.put, dstO, List.take_succ_cons, List.take_zero, List.setIfInBounds_toArray, List.set_cons_zero, List.set_cons_succ, List.getElem?_cons_zero, Nat.zero_add, Nat.reduceAdd] at hK ⊢
              refine OpB.mk' ?_
              go_simp
              exact hK.out _ _ rfl (fun h => by cases h) (fun _ => Ext.refl _)
            · refine opF2_step ?_
              intro ys l0 h0 w' hr hs hf K hK
              clear hf
              clear hs
              simp only [fill, Act.put, dstO, List.take_succ_cons, List.take_zero, List.setIfInBounds_toArray, List.set_cons_zero, List.set_cons_succ, List.getElem?_cons_zero, List.getElem?_cons_succ, Nat.zero_add, Nat.reduceAdd] at hK ⊢
              refine OpB.mk' ?_
              go_simp
              exact hK.out _ _ rfl (fun h => by cases h) (fun _ => Ext.refl _)
            · refine opF2_step ?_
              intro ys l0 h0 w' hr hs hf K hK
              clear hf
              clear hs
              simp only [fill, Act.put, dstO, List.take_succ_cons, List.take_zero, List.setIfInBounds_toArray, List.set_cons_zero, List.set_cons_succ, List.getElem?_cons_zero, List.getElem?_cons_succ, Nat.zero_add, Nat.reduceAdd] at hK ⊢
              refine OpB.mk' ?_
              go_simp
              exact hK.out _ _ rfl (fun h => by cases h) (fun _ => Ext.refl _)
            · refine opF2_step ?_
              intro ys l0 h0 w' hr hs hf K hK
              clear hf
              clear hs
              simp only [fill, Act.put, dstO, List.take_succ_cons, List.take_zero, List.setIfInBounds_toArray, List.set_cons_zero, List.set_cons_succ, List.getElem?_cons_zero, List.getElem?_cons_succ, Nat.zero_add, Nat.reduceAdd] at hK ⊢
              refine OpB.mk' ?_
              go_simp
              exact hK.out _ _ rfl (fun h => by cases h) (fun _ => Ext.refl _)
            · refine opF2_step ?_
              intro ys l0 h0 w' hr hs hf K hK
              obtain ⟨f0, -⟩ := hf
              have e0 : ys 3 = _ := f0
              clear hs
              simp only [fill, Act.put, dstO, List.take_succ_cons, List.take_zero, List.setIfInBounds_toArray, List.set_cons_zero, List.set_cons_succ, List.getElem?_cons_zero, List.getElem?_cons_succ, Nat.zero_add, Nat.reduceAdd] at hK ⊢
              simp only [e0] at hK ⊢
              clear e0 f0
              refine OpB.mk' ?_
              go_simp
              exact hK.out _ _ rfl (fun h => by cases h) (fun _ => Ext.refl _)
            · refine opF2_step ?_
              intro ys l0 h0 w' hr hs hf K hK
              clear hf
              clear hs
              simp only [fill, Act.put, dstO, List.take_succ_cons, List.take_zero, List.setIfInBounds_toArray, List.set_cons_zero, List.set_cons_succ, List.getElem?_cons_zero, List.getElem?_cons_succ, Nat.zero_add, Nat.reduceAdd] at hK ⊢
              refine OpB.mk' ?_
              go_simp
              exact hK.out _ _ rfl (fun h => by cases h) (fun _ => Ext.refl _)
            · refine opF2_step ?_
              intro ys l0 h0 w' hr hs hf K hK
              clear hf
              clear hs
              simp only [fill, Act.put, dstO, List.take_succ_cons, List.take_zero, List.setIfInBounds_toArray, List.set_cons_zero, List.set_cons_succ, List.getElem?_cons_zero, List.getElem?_cons_succ, Nat.zero_add, Nat.reduceAdd] at hK ⊢
              refine OpB.mk' ?_
              go_simp
              exact hK.out _ _ rfl (fun h => by cases h) (fun _ => Ext.refl _)
            · refine opF2_step ?_
              intro ys l0 h0 w' hr hs hf K hK
              obtain ⟨f0, -⟩ := hf
              have e0 : ys 6 = _ := f0
              clear hs
              simp only [fill, Act.put, dstO, List.take_succ_cons, List.take_zero, List.setIfInBounds_toArray, List.set_cons_zero, List.set_cons_succ, List.getElem?_cons_zero, List.getElem?_cons_succ, Nat.zero_add, Nat.reduceAdd] at hK ⊢
              simp only [e0] at hK ⊢
              clear e0 f0
              refine OpB.mk' ?_
              go_simp
              exact hK.out _ _ rfl (fun h => by cases h) (fun _ => Ext.refl _)
            · refine opF2_step ?_
              intro ys l0 h0 w' hr hs hf K hK
              obtain ⟨f0, f1, -⟩ := hf
              have e0 : ys 5 = _ := f0
              have e1 : ys 7 = _ := f1
              clear hs
              simp only [fill, Act.put, dstO, List.take_succ_cons, List.take_zero, List.setIfInBounds_toArray, List.set_cons_zero, List.set_cons_succ, List.getElem?_cons_zero, List.getElem?_cons_succ, Nat.zero_add, Nat.reduceAdd] at hK ⊢
              simp only [e0, e1] at hK ⊢
              clear e0 e1 f0 f1
              refine OpB.mk' ?_
              go_simp
              exact hK.out _ _ rfl (fun h => by cases h) (fun _ => Ext.refl _)
            · refine opF2_step ?_
              intro ys l0 h0 w' hr hs hf K hK
              obtain ⟨f0, -⟩ := hf
              have e0 : ys 8 = _ := f0
              obtain ⟨j1, j3, j0, j2, jz, jy, jo⟩ := HKC.out w' ((Ext.refl W4).drew.trans (hs (by first | exact Or.inr rfl | exact Or.inl rfl)))
              clear hs
              simp only [fill, Act.put, dstO, List.take_succ_cons, List.take_zero, List.setIfInBounds_toArray, List.set_cons_zero, List.set_cons_succ, List.getElem?_cons_zero, List.getElem?_cons_succ, Nat.zero_add, Nat.reduceAdd] at hK ⊢
              simp only [e0] at hK ⊢
              clear e0 f0
              refine OpB.mk' ?_
              go_simp
              exact hK.out _ _ rfl (fun h => by cases h) (fun _ => Ext.refl _)
            · refine opF2_step ?_
              intro ys l0 h0 w' hr hs hf K hK
              clear hf
              clear hs
              simp only [fill, Act.put, dstO, List.take_succ_cons, List.take_zero, List.setIfInBounds_toArray, List.set_cons_zero, List.set_cons_succ, List.getElem?_cons_zero, List.getElem?_cons_succ, Nat.zero_add, Nat.reduceAdd] at hK ⊢
              refine OpB.mk' ?_
              go_simp
              exact hK.out _ _ rfl (fun h => by cases h) (fun _ => Ext.refl _)
            · refine opF2_step ?_
              intro ys l0 h0 w' hr hs hf K hK
              clear hf
              clear hs
              simp only [fill, Act.put, dstO, List.take_succ_cons, List.take_zero, List.setIfInBounds_toArray, List.set_cons_zero, List.set_cons_succ, List.getElem?_cons_zero, List.getElem?_cons_succ, Nat.zero_add, Nat.reduceAdd] at hK ⊢
              refine OpB.mk' ?_
              go_simp
              exact hK.out _ _ rfl (fun h => by cases h) (fun _ => Ext.refl _)
            · refine opF2_step ?_
              intro ys l0 h0 w' hr hs hf K hK
              obtain ⟨f0, f1, -⟩ := hf
              have e0 : ys 10 = _ := f0
              have e1 : ys 11 = _ := f1
              clear hs
              simp only [fill, Act.put, dstO, List.take_succ_cons, List.take_zero, List.setIfInBounds_toArray, List.set_cons_zero, List.set_cons_succ, List.getElem?_cons_zero, List.getElem?_cons_succ, Nat.zero_add, Nat.reduceAdd] at hK ⊢
              simp only [e0, e1] at hK ⊢
              clear e0 e1 f0 f1
              refine OpB.mk' ?_
              go_simp
              exact hK.out _ _ rfl (fun h => by cases h) (fun _ => Ext.refl _)
            · refine opF2_step ?_
              intro ys l0 h0 w' hr hs hf K hK
              obtain ⟨f0, -⟩ := hf
              have e0 : ys 12 = _ := f0
              obtain ⟨j1, j3, j0, j2, jz, jy, jo⟩ := HKC.out w' ((Ext.refl W4).drew.trans (hs (by first | exact Or.inr rfl | exact Or.inl rfl)))
              clear hs
              simp only [fill, Act.put, dstO, List.take_succ_cons, List.take_zero, List.setIfInBounds_toArray, List.set_cons_zero, List.set_cons_succ, List.getElem?_cons_zero, List.getElem?_cons_succ, Nat.zero_add, Nat.reduceAdd] at hK ⊢
              simp only [e0] at hK ⊢
              clear e0 f0
              refine OpB.mk' ?_
              go_simp
              exact hK.out _ _ rfl (fun h => by cases h) (fun _ => Ext.refl _)
            · refine opF2_step ?_
              intro ys l0 h0 w' hr hs hf K hK
              obtain ⟨f0, f1, -⟩ := hf
              have e0 : ys 0 = _ := f0
              have e1 : ys 1 = _ := f1
              clear hs
              simp only [fill, Act.put, dstO, List.take_succ_cons, List.take_zero, List.setIfInBounds_toArray, List.set_cons_zero, List.set_cons_succ, List.getElem?_cons_zero, List.getElem?_cons_succ, Nat.zero_add, Nat.reduceAdd] at hK ⊢
              simp only [e0, e1] at hK ⊢
              clear e0 e1 f0 f1
              refine OpB.mk' ?_
              go_simp
              exact hK.out _ _ rfl (fun h => by cases h) (fun _ => Ext.refl _)
            · refine opF2_step ?_
              intro ys l0 h0 w' hr hs hf K hK
              obtain ⟨f0, f1, -⟩ := hf
              have e0 : ys 14 = _ := f0
              have e1 : ys 9 = _ := f1
              obtain ⟨j1, j3, j0, j2, jz, jy, jo⟩ := HKC.out w' ((Ext.refl W4).drew.trans (hs (by first | exact Or.inr rfl | exact Or.inl rfl)))
              clear hs
              simp only [fill, Act.put, dstO, List.take_succ_cons, List.take_zero, List.setIfInBounds_toArray, List.set_cons_zero, List.set_cons_succ, List.getElem?_cons_zero, List.getElem?_cons_succ, Nat.zero_add, Nat.reduceAdd] at hK ⊢
              simp only [e0, e1] at hK ⊢
              clear e0 e1 f0 f1
              refine OpB.mk' ?_
              go_simp
              refine hK.out undef _ ?_ (fun _ => ((Ups.refl _ _).setCell _ _).setCell _ _) (fun h => absurd rfl h)
              exact ownsRow_setP jo
            intro ys l0 h0 w2 hr hf hsp
            obtain ⟨f2, f4, f13, f15, -⟩ := hf
            have e2 : ys 2 = _ := f2
            have e4 : ys 4 = _ := f4
            have e13 : ys 13 = _ := f13
            have hO2 := f15
            simp only [fill, Act.put, List.take_succ_cons, List.take_zero, List.setIfInBounds_toArray, List.set_cons_zero, List.set_cons_succ, Nat.zero_add, Nat.reduceAdd, List.drop_succ_cons, List.drop_zero]
            rw [e2, e4, e13]
            clear e2 f2 e4 f4 e13 f13
            clear hsp
            obtain ⟨d0, d1, g0, g1⟩ := ownsRow_cellP hO2 (i := p) (by rw [List.length_set]; omega)
            have HO5 := Lib.hid hO2
            have hU5 : Ups g w w2 := (HU2.out.trans (Ups.ext HE4.out)).trans ((Ups.refl g W4).drew.trans hr)
            have HU5 := Lib.hid hU5
            clear hO2 hr hU5
            go_wp2
            go_roundw
            case rel => exact ⟨p, _, by simp, by rw [swpP_len]; exact HKL.out, HPM.out.trans HP2.out, HST.out (HR1.out hba), (HU5.out.setCell _ _).setCell _ _, by rw [HSW.out]; exact ownsRow_setP HO5.out⟩
            case measure => simp [intOf]
          · go_upto_region 4 with (fail)
            refine wp_region_extW (by kernel_rfl) (by kernel_rfl) ?_
            repeat (go_big_quiet_step ((go_at_call 43; exact HLS.out _)))
            refine wpQuiet_nil ?_
            rintro _ ⟨x2, rfl⟩
            have HE2 := Lib.hid x2.h
            have HS3 := Lib.hid (HSP.out (Or.inr (HR2.out (by omega))))
            clear k0 k1 k2 k3 HLS HX
            go_wp2
            go_roundw
            case rel => exact ⟨i + 1, k, by simp, by omega, by omega, HKL.out, HP2.out, by rw [Nat.min_eq_left (by omega)]; exact HS3.out, HU2.out.trans (Ups.ext HE2.out), ownsRow_ext HO2.out HE2.out⟩
            case measure => simp [intOf]; omega
    · have hge : ¬(i : Int) < (n : Int) := by omega
      have HF := Lib.hid (⟨m, hp, SrtP.pairwise (by rw [Nat.min_eq_right (by omega)] at hs; rw [hml]; exact hs), hU, hO⟩ : ∃ l', l'.Perm l ∧ l'.Pairwise R ∧ Ups g w wr ∧ wr.ownsRow B 77 2 (.slice (some ⟨g, 0, none⟩) n cap) n (pairVs l'))
      clear hml hp hs hU hO
      go_wp2
      (try simp only [Exit.inBlock, Exit.then])
      refine bodyPost_ret (results_none rfl _ _ _) rfl ?_
      exact ⟨rfl, HF.out⟩

set_option maxRecDepth 20000 in
set_option maxHeartbeats 3200000 in
theorem stable_p (B g n cap : Nat) (l : List (Int × Int)) (hl : l.length = n) (hn : n ≤ 12) (w : World) (hO : w.ownsRow B 77 2 (.slice (some ⟨g, 0, none⟩) n cap) n (pairVs l)) (ht : ∀ x ∈ l, 0 ≤ x.2 ∧ x.2 ≤ 9999) :
    Calls Tryd.prog 51 #[.slice (some ⟨g, 0, none⟩) n cap, .int .i64 n, .func (.func 43) #[] #[]] w (RetScP (fun x y => x.2 ≤ y.2) B g n cap l w) := by
  have HI := Lib.hid (insCP B g n cap l hl (by omega) w hO (fun x y => x.2 ≤ y.2) (fun _ _ _ h h2 => Int.le_trans h h2) (fun x y => wrap64 (x.2 - y.2))
    (fun x hx y hy h => by have h1 := ht x hx; have h2 := ht y hy; rw [show wrap64 (x.2 - y.2) = x.2 - y.2 from by unfold wrap64; omega] at h; omega)
    (fun x hx y hy h => by have h1 := ht x hx; have h2 := ht y hy; rw [show wrap64 (x.2 - y.2) = x.2 - y.2 from by unfold wrap64; omega] at h; omega)
    (fun x hx y hy z hz => times_less x y z))
  have hn' : ¬(20 : Int) ≤ (n : Int) := by omega
  have hn2 : ¬(20 : Int) < (n : Int) := by omega
  clear hl hO ht
  go_enter Tryd.func51, Tryd.ntmps51
  go_wp2
  refine wp_loop_rounds 1 ?_
  rw [rounds_succ]
  go_wp2_with (go_at_call 58; refine HI.out.mono ?_; rintro e w2 ⟨rfl, hR⟩)
  refine wp_loop_rounds 1 ?_
  rw [rounds_succ]
  go_wp2
  (try simp only [Exit.inBlock, Exit.then])
  refine bodyPost_ret (results_none rfl _ _ _) rfl ?_
  exact ⟨rfl, hR⟩
set_option maxRecDepth 20000 in
set_option maxHeartbeats 1600000 in
theorem sort_p (B g n cap : Nat) (l : List (Int × Int)) (hl : l.length = n) (hn : n ≤ 12) (w : World) (hO : w.ownsRow B 77 2 (.slice (some ⟨g, 0, none⟩) n cap) n (pairVs l)) (ht : ∀ x ∈ l, 0 ≤ x.2 ∧ x.2 ≤ 9999) :
    Calls Tryd.prog 42 #[.slice (some ⟨g, 0, none⟩) n cap, .func (.func 43) #[] #[]] w (RetScP (fun x y => x.2 ≤ y.2) B g n cap l w) := by
  have HI := Lib.hid (stable_p B g n cap l hl hn w hO ht)
  clear hl hO ht
  go_enter Tryd.func42, Tryd.ntmps42
  go_wp2_with (go_at_call 51; refine HI.out.mono ?_; rintro e w2 ⟨rfl, hR⟩)
  (try simp only [Exit.inBlock, Exit.then])
  refine bodyPost_ret (results_none rfl _ _ _) rfl ?_
  exact ⟨rfl, hR⟩
end Go.Proofs.YtppncdbhebgcaaaDoor
namespace Go.Proofs.YtppncdbhebgcaaaDoor
open Go.RowKit

theorem info_press : (Tryd.prog.info? 77).map (fun i => (i.zero, i.size, i.bytes)) = some (some (.agg #[.int .i64 0, .int .i64 0]), 2, 16) := by kernel_rfl
/-- a copy of presses: nothing, or a row of its own -/
def RetCl (l : List (Int × Int)) (w : World) (e : Ending) (w' : World) : Prop :=
  ∃ v, e = .returned v ∧ Ext w w' ∧ ((v = .slice none 0 0 ∧ l = []) ∨ RwB w.heap.size 77 l v 0 0 w')

set_option maxRecDepth 20000 in
set_option maxHeartbeats 1600000 in
theorem clone_p {w : World} {p : Option Addr} {l : List (Int × Int)} {c : Nat} (hl : PairsAt w p l) (hle : l.length ≤ 1000) :
    Calls Tryd.prog 41 #[.slice p l.length c] w (RetCl l w) := by
  cases p with
  | none =>
    have hn : l = [] := by
      cases l with
      | nil => rfl
      | cons y r => obtain ⟨b, o, h, -⟩ := hl 0 (by simp); cases h
    subst hn
    have he : (binOp .eql 35 (.slice none 0 c) (.slice none 0 0)).run Tryd.prog w = .ok (.bool true) w := by kernel_rfl
    clear hl hle
    go_enter Tryd.func41, Tryd.ntmps41
    go_wp2
    go_ret
    exact ⟨_, rfl, Ext.refl _, Or.inl ⟨rfl, rfl⟩⟩
  | some ad =>
    have HL := Lib.hid hl
    have HLE := Lib.hid hle
    obtain ⟨n, hn⟩ : ∃ n, n = l.length := ⟨_, rfl⟩
    have HN := Lib.hid hn
    rw [← hn]
    have he : (binOp .eql 35 (.slice (some ad) n c) (.slice none 0 0)).run Tryd.prog w = .ok (.bool false) w := by kernel_rfl
    clear hl hle hn
    go_enter Tryd.func41, Tryd.ntmps41
    go_wp2_with (at_builtin; refine wpList_plain rfl fun K hK => ?_; refine wp_pairs_of (.tmp 5) (.tmp 6) 35 77 rfl Tryd.underlying35 info_press w.heap.size w.heap.size (by rw [size_alloc]; omega) rfl (World.ownsRow_made w #[] 0 (Nat.le_refl _) (by decide) rfl) (some ad) l c (by rw [← HN.out]; rfl) (HL.out.ext ((Ext.refl w).alloc _)) (by have := HLE.out; omega) ?_; intro v w2 hv hE; refine hK _ _ ?_)
    go_ret
    exact ⟨_, rfl, ((Ext.refl w).alloc _).trans hE, Or.inr hv⟩
end Go.Proofs.YtppncdbhebgcaaaDoor
