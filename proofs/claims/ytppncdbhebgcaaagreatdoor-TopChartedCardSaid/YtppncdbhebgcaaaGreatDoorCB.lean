
/- Charts: a chart and a table in memory; the small functions of package charts. Charts: the walk of (table).rank. Charts: the walk of Check. Charts: the table of a chart: the walk of ask. Charts: the walks of Numbers and Rank; which tables there are. -/
import Derived.Test.YtppncdbhebgcaaaGreatDoorXK
import Derived.Test.YtppncdbhebgcaaaGreatDoorQ8b
import Derived.Test.YtppncdbhebgcaaaGreatDoorCA
import Derived.Test.YtppncdbhebgcaaaGreatDoorQ7n
namespace Go.Proofs.YtppncdbhebgcaaaGreatDoor
open Go.RowKit

structure Ch where
  meters : List Mt
  extra : List Int
  frm : Int
  tto : Int
/-- a slice of meters (three cells each) -/
def MtsAt (w : World) (p : Option Addr) (L : List Mt) : Prop :=
  ∀ i (h : i < L.length), ∃ b o p1 d1 p2 d2, p = some ⟨b, o, none⟩ ∧ w.cell? ⟨b, o + i * 3, none⟩ = some (.slice p1 L[i].weeks.length d1) ∧ w.cell? ⟨b, o + i * 3 + 1, none⟩ = some (.slice p2 L[i].reads.length d2) ∧
    w.cell? ⟨b, o + i * 3 + 2, none⟩ = some (.int .i64 L[i].wrong) ∧ PairsAt w p1 L[i].weeks ∧ PairsAt w p2 L[i].reads
theorem MtsAt.ext {w w' : World} {p : Option Addr} {L : List Mt} (h : MtsAt w p L) (hE : Ext w w') : MtsAt w' p L := by
  intro i hi
  obtain ⟨b, o, p1, d1, p2, d2, hp, h0, h1, h2, h3, h4⟩ := h i hi
  exact ⟨b, o, p1, d1, p2, d2, hp, hE.cell h0, hE.cell h1, hE.cell h2, h3.ext hE, h4.ext hE⟩
/-- a chart -/
def ChV (w : World) (v : Value) (C : Ch) : Prop := ∃ p c q d, v = .agg #[.slice p C.meters.length c, .slice q C.extra.length d, .int .i64 C.frm, .int .i64 C.tto] ∧ MtsAt w p C.meters ∧ IntsAt w q C.extra
theorem ChV.ext {w w' : World} {v : Value} {C : Ch} (h : ChV w v C) (hE : Ext w w') : ChV w' v C := by
  obtain ⟨p, c, q, d, e, h1, h2⟩ := h
  exact ⟨p, c, q, d, e, h1.ext hE, h2.ext hE⟩
/-- no more than so much of anything -/
structure ChSm (C : Ch) : Prop where
  nm : C.meters.length ≤ 20
  nx : C.extra.length ≤ 40
  mt : ∀ M ∈ C.meters, M.weeks.length ≤ 40 ∧ M.reads.length ≤ 40
def headC (C : Ch) : Bool := decide (C.meters.length ≤ 6) && (decide (C.extra.length = C.meters.length) && (decide (0 ≤ C.frm) && (decide (C.frm ≤ C.tto) && decide (C.tto ≤ 5))))
def extB (x : Int) : Bool := decide (0 ≤ x) && decide (x ≤ 999)
def mtB (t : Int) (M : Mt) : Bool := okB M && decide (t ≤ M.weeks.length)
def okC (C : Ch) : Bool := headC C && (C.extra.all extB && C.meters.all (mtB C.tto))
structure ValidC (C : Ch) : Prop where
  nm : C.meters.length ≤ 6
  nx : C.extra.length = C.meters.length
  f0 : 0 ≤ C.frm
  ft : C.frm ≤ C.tto
  t5 : C.tto ≤ 5
  ex : ∀ x ∈ C.extra, 0 ≤ x ∧ x ≤ 999
  mt : ∀ M ∈ C.meters, ValidM M ∧ C.tto ≤ M.weeks.length
theorem okC_iff (C : Ch) : okC C = true ↔ ValidC C := by
  unfold okC headC extB mtB
  simp only [Bool.and_eq_true, decide_eq_true_eq, List.all_eq_true]
  constructor
  · rintro ⟨⟨h1, h2, h3, h4, h5⟩, h6, h7⟩
    exact ⟨h1, h2, h3, h4, h5, fun x hx => h6 x hx, fun M hM => ⟨(okB_iff M).1 (h7 M hM).1, (h7 M hM).2⟩⟩
  · rintro ⟨h1, h2, h3, h4, h5, h6, h7⟩
    exact ⟨⟨h1, h2, h3, h4, h5⟩, fun x hx => h6 x hx, fun M hM => ⟨(okB_iff M).2 (h7 M hM).1, (h7 M hM).2⟩⟩
def chkC (C : Ch) : Int := if okC C = true then 0 else 60
theorem chkC_t {C : Ch} (h : ValidC C) : chkC C = 0 := by unfold chkC; rw [if_pos ((okC_iff C).2 h)]
theorem chkC_f {C : Ch} (h : ¬ValidC C) : chkC C = 60 := by unfold chkC; rw [if_neg (fun e => h ((okC_iff C).1 e))]
theorem chkM_0 (M : Mt) : decide (chkM M = 0) = okB M := by
  unfold chkM
  cases okB M <;> simp
theorem ListsAt.row {w : World} {p : Option Addr} {T : Tab} (h : ListsAt w p T) {i : Nat} (hi : i < T.length) : ∃ b o q c, p = some ⟨b, o, none⟩ ∧ w.cell? ⟨b, o + i, none⟩ = some (.slice q (rowT T i).length c) ∧ IntsAt w q (rowT T i) := by
  obtain ⟨b, o, q, c, h1, h2, h3⟩ := h.at i hi
  rw [rowT_get hi]
  exact ⟨b, o, q, c, h1, h2, h3⟩
theorem RwV.lists {w : World} {B : Nat} {v : Value} {vs : List Value} {L : Tab} {r : Option Nat} (h : RwV w B v vs L r) : ∃ q c, v = .slice q L.length c ∧ ListsAt w q L := by
  obtain ⟨q, c, rfl⟩ := h.slice
  refine ⟨q, c, by rw [h.len], fun i hi => ?_⟩
  have hiv : i < vs.length := by rw [h.len]; exact hi
  obtain ⟨b, cc, he, hc⟩ := ownsRow_at h.out i hiv
  obtain ⟨p, c', h1, h2⟩ := h.row i hi
  injection he with he1 he2 he3
  rw [h1] at hc
  refine ⟨b, 0, .slice p L[i].length c', he1, ?_, p, c', rfl, h2.ints⟩
  rw [Nat.zero_add]
  exact hc

set_option maxRecDepth 20000 in
theorem isTitle06 (C : Ch) (n : Int) (v : Value) (w : World) (hv : ChV w v C) :
    Calls Tryz.prog 32 #[v, .int .i64 n] w (RetE (.bool (decide (0 ≤ n) && decide (n < C.meters.length))) w) := by
  obtain ⟨p, c, q, d, rfl, hp, hq⟩ := hv
  clear hp hq
  go_enter Tryz.func32, Tryz.ntmps32
  by_cases h0 : 0 ≤ n
  · by_cases h1 : n < C.meters.length
    · have hb : (decide (0 ≤ n) && decide (n < (C.meters.length : Int))) = true := by simp [h0, h1]
      rw [hb]
      clear hb
      go_wp2
      go_ret
      exact RetE.fin (by repeat (first | exact Ext.refl _ | assumption | refine Ext.drewN ?_ _ | refine Ext.drew ?_ | refine Ext.alloc ?_ _)) rfl
    · have hb : (decide (0 ≤ n) && decide (n < (C.meters.length : Int))) = false := by simp [h1]
      rw [hb]
      clear hb
      go_wp2
      go_ret
      exact RetE.fin (by repeat (first | exact Ext.refl _ | assumption | refine Ext.drewN ?_ _ | refine Ext.drew ?_ | refine Ext.alloc ?_ _)) rfl
  · have hb : (decide (0 ≤ n) && decide (n < (C.meters.length : Int))) = false := by simp [h0]
    rw [hb]
    clear hb
    go_wp2
    go_ret
    exact RetE.fin (by repeat (first | exact Ext.refl _ | assumption | refine Ext.drewN ?_ _ | refine Ext.drew ?_ | refine Ext.alloc ?_ _)) rfl
def isTB (C : Ch) (n : Int) : Bool := decide (0 ≤ n) && decide (n < C.meters.length)
def isFB (C : Ch) (n : Int) : Bool := decide (1 ≤ n) && decide (n ≤ C.meters.length)
theorem isTB_iff {C : Ch} {n : Int} : isTB C n = true ↔ 0 ≤ n ∧ n < C.meters.length := by simp [isTB]
theorem isFB_iff {C : Ch} {n : Int} : isFB C n = true ↔ 1 ≤ n ∧ n ≤ C.meters.length := by simp [isFB]
theorem wf_range {n : Int} (h : (Lit.int .i64 n).wf = true) : -9223372036854775808 ≤ n ∧ n ≤ 9223372036854775807 := by
  simp [Lit.wf, IntKind.min, IntKind.max, IntKind.signed, IntKind.bits] at h
  omega
theorem wrap_less {n : Int} {k : Nat} (h : (Lit.int .i64 n).wf = true) (hk : k ≤ 1000) : (decide (0 ≤ IntKind.i64.wrap (n - 1)) && decide (IntKind.i64.wrap (n - 1) < (k : Int))) = (decide (1 ≤ n) && decide (n ≤ (k : Int))) := by
  have hr : -9223372036854775808 ≤ n ∧ n ≤ 9223372036854775807 := wf_range h
  rw [IntKind.wrap_i64, Bool.eq_iff_iff, Bool.and_eq_true, Bool.and_eq_true, decide_eq_true_eq, decide_eq_true_eq, decide_eq_true_eq, decide_eq_true_eq]
  omega
set_option maxRecDepth 20000 in
theorem isFirst06 (C : Ch) (n : Int) (v : Value) (w : World) (hv : ChV w v C) (hw : (Lit.int .i64 n).wf = true) (hl : C.meters.length ≤ 1000) :
    Calls Tryz.prog 34 #[v, .int .i64 n] w (RetE (.bool (isFB C n)) w) := by
  have HV := Lib.hid hv
  have HB := Lib.hid (wrap_less hw hl)
  obtain ⟨p, c, q, d, rfl, hp, hq⟩ := hv
  clear hp hq hw
  go_enter Tryz.func34, Tryz.ntmps34
  go_upto_region 1 with (fail)
  obtain ⟨s0, hs0⟩ : ∃ s0, s0 = w.heap.size := ⟨_, rfl⟩
  obtain ⟨W, hW⟩ : ∃ W, W = w.alloc (.cells #[.slice p C.meters.length c, .slice q C.extra.length d, .int .i64 C.frm, .int .i64 C.tto] 25) := ⟨_, rfl⟩
  have m0 : W.heap[s0]? = some (.cells #[.slice p C.meters.length c, .slice q C.extra.length d, .int .i64 C.frm, .int .i64 C.tto] 25) := by rw [hs0, hW]; exact heap_new _ _
  have hE : Ext w W := by rw [hW]; exact (by repeat (first | exact Ext.refl _ | assumption | refine Ext.drewN ?_ _ | refine Ext.drew ?_ | refine Ext.alloc ?_ _))
  rw [← hs0, ← hW]
  have a0 := cell_of_heap m0 0
  have a1 := cell_of_heap m0 1
  have a2 := cell_of_heap m0 2
  have a3 := cell_of_heap m0 3
  have HE := Lib.hid hE
  obtain ⟨m, hm⟩ : ∃ m, m = IntKind.i64.wrap (n - 1) := ⟨_, rfl⟩
  rw [← hm] at HB
  have HT := Lib.hid (isTitle06 C m _ W (HV.out.ext hE))
  rw [HB.out] at HT
  have hm' := hm.symm
  clear hW m0 hE hs0 hm
  go_wp2_with (go_at_call 32; refine HT.out.mono ?_; rintro e w2 ⟨rfl, hE2⟩)
  go_ret
  exact RetE.fin (HE.out.trans hE2) rfl
theorem head_get {l : List Int} (h : 0 < l.length) : l[0] = l.headD 0 := by
  cases l with
  | nil => cases h
  | cons a l => rfl
set_option maxRecDepth 20000 in
theorem low06 (T : Tab) (hT : TabOK T) (i : Nat) (hi : i < T.length) (q : Option Addr) (c : Nat) (w : World) (hv : ListsAt w q T) :
    Calls Tryz.prog 36 #[.slice q T.length c, .int .i64 i] w (RetE (.int .i64 (loT T i)) w) := by
  obtain ⟨b, o, p, d, rfl, h1, h2⟩ := hv.row hi
  have hl : 0 < (rowT T i).length := List.length_pos_iff.2 (hT.ne hi)
  obtain ⟨b2, o2, rfl, h3⟩ := h2.at 0 hl
  have e : (rowT T i)[0] = loT T i := head_get hl
  rw [e, Nat.add_zero] at h3
  obtain ⟨n, hn⟩ : ∃ n, n = (rowT T i).length := ⟨_, rfl⟩
  rw [← hn] at h1 hl
  have hi' : (i : Int) < (T.length : Int) := by omega
  have hl' : (0 : Int) < (n : Int) := by omega
  clear e hn h2
  go_enter Tryz.func36, Tryz.ntmps36
  go_wp2
  go_ret
  exact RetE.fin (by repeat (first | exact Ext.refl _ | assumption | refine Ext.drewN ?_ _ | refine Ext.drew ?_ | refine Ext.alloc ?_ _)) rfl
set_option maxRecDepth 20000 in
set_option maxHeartbeats 1600000 in
theorem high06 (T : Tab) (hT : TabOK T) (i : Nat) (hi : i < T.length) (hs : ∀ l ∈ T, l.length ≤ 2000) (q : Option Addr) (c : Nat) (w : World) (hv : ListsAt w q T) :
    Calls Tryz.prog 37 #[.slice q T.length c, .int .i64 i] w (RetE (.int .i64 (hiT T i)) w) := by
  obtain ⟨b, o, p, d, rfl, h1, h2⟩ := hv.row hi
  have hl : 0 < (rowT T i).length := List.length_pos_iff.2 (hT.ne hi)
  have hl2 : (rowT T i).length ≤ 2000 := by rw [rowT_get hi]; exact hs _ (List.getElem_mem hi)
  obtain ⟨b2, o2, rfl, h3⟩ := h2.at ((rowT T i).length - 1) (by omega)
  have e : (rowT T i)[(rowT T i).length - 1] = hiT T i := by
    unfold hiT
    rw [← List.getLast_eq_getElem (h := hT.ne hi), List.getLastD_eq_getLast?, List.getLast?_eq_some_getLast (hT.ne hi)]
    rfl
  rw [e] at h3
  obtain ⟨n, hn⟩ : ∃ n, n = (rowT T i).length := ⟨_, rfl⟩
  rw [← hn] at h1 hl hl2 h3
  obtain ⟨m, rfl⟩ : ∃ m, n = m + 1 := ⟨n - 1, by omega⟩
  have hi' : (i : Int) < (T.length : Int) := by omega
  have hm : (m : Int) < ((m : Int) + 1) := by omega
  have hw : IntKind.i64.wrap (((m + 1 : Nat) : Int) - 1) = (m : Int) := by rw [IntKind.wrap_i64]; omega
  have hw2 : IntKind.i64.wrap (m : Int) = (m : Int) := by rw [IntKind.wrap_i64]; omega
  rw [show m + 1 - 1 = m from rfl] at h3
  have k1 := ExtW.cell h1
  have k3 := ExtW.cell h3
  clear e hn h2 h1 h3
  go_enter Tryz.func37, Tryz.ntmps37
  go_upto_region 1 with (fail)
  obtain ⟨x0, hx0⟩ := ExtW.of (Ext.refl w)
  conv => arg 5; rw [hx0]
  clear hx0
  refine wp_region_extW (by kernel_rfl) (by kernel_rfl) ?_
  repeat (go_big_quiet_step (fail))
  refine wpQuiet_nil ?_
  rintro _ ⟨x2, rfl⟩
  go_wp2
  go_ret
  exact RetE.fin x2.h rfl
end Go.Proofs.YtppncdbhebgcaaaGreatDoor
namespace Go.Proofs.YtppncdbhebgcaaaGreatDoor
open Go.RowKit

theorem keep2 {w w' : World} {b : Nat} {t : TypeId} {x y : Value} (h : w.heap[b]? = some (.cells #[x, y] t)) (hE : Ext w w') : w'.heap[b]? = some (.cells #[x, y] t) :=
  (hE.block b (Array.getElem?_eq_some_iff.1 h).1).trans h

end Go.Proofs.YtppncdbhebgcaaaGreatDoor
namespace Go.Proofs.YtppncdbhebgcaaaGreatDoor
open Go.RowKit

structure EqS (n m : Nat) : Prop where
  out : n = m
theorem lt_hid {n m k : Nat} (h : EqS n m) (hk : k < m) : (k : Int) < (n : Int) := by have := h.out; omega
theorem ge_hid {n m k : Nat} (h : EqS n m) (hk : ¬k < m) : ¬(k : Int) < (n : Int) := by have := h.out; omega
set_option maxRecDepth 20000 in
set_option maxHeartbeats 6400000 in
theorem Check06 (C : Ch) (v : Value) (w : World) (hv : ChV w v C) (hs : ChSm C) :
    Calls Tryz.prog 60 #[v] w (RetE (.int .i64 (chkC C)) w) := by
  obtain ⟨p, c, q, d, rfl, hp, hq⟩ := hv
  have HP := Lib.hid hp
  have HQ := Lib.hid hq
  have HSM := Lib.hid hs.mt
  have hn1 := hs.nm
  have hn2 := hs.nx
  obtain ⟨nx, hnx⟩ : ∃ nx, nx = C.extra.length := ⟨_, rfl⟩
  rw [← hnx]
  have HNX : EqS nx C.extra.length := ⟨hnx⟩
  clear hp hq hs hnx
  go_enter Tryz.func60, Tryz.ntmps60
  go_upto_region 1 with (fail)
  obtain ⟨s0, hs0⟩ : ∃ s0, s0 = w.heap.size := ⟨_, rfl⟩
  obtain ⟨W, hW⟩ : ∃ W, W = w.alloc (.cells #[.slice p C.meters.length c, .slice q nx d, .int .i64 C.frm, .int .i64 C.tto] 25) := ⟨_, rfl⟩
  have m0 : W.heap[s0]? = some (.cells #[.slice p C.meters.length c, .slice q nx d, .int .i64 C.frm, .int .i64 C.tto] 25) := by rw [hs0, hW]; exact heap_new _ _
  have hE : Ext w W := by rw [hW]; exact (by repeat (first | exact Ext.refl _ | assumption | refine Ext.drewN ?_ _ | refine Ext.drew ?_ | refine Ext.alloc ?_ _))
  rw [← hs0, ← hW]
  have m00 : W.cell? ⟨s0, 0, none⟩ = some (.slice p C.meters.length c) := cell_of_heap m0 0
  have m01 : W.cell? ⟨s0, 1, none⟩ = some (.slice q nx d) := cell_of_heap m0 1
  have m02 : W.cell? ⟨s0, 2, none⟩ = some (.int .i64 C.frm) := cell_of_heap m0 2
  have m03 : W.cell? ⟨s0, 3, none⟩ = some (.int .i64 C.tto) := cell_of_heap m0 3
  have HCE := Lib.hid (fun y (h : Ext W y) => (⟨h.cell m00, h.cell m01, h.cell m03, hE.trans h⟩ :
    y.cell? ⟨s0, 0, none⟩ = some (.slice p C.meters.length c) ∧ y.cell? ⟨s0, 1, none⟩ = some (.slice q nx d) ∧ y.cell? ⟨s0, 3, none⟩ = some (.int .i64 C.tto) ∧ Ext w y))
  clear hW m0 hE hs0
  go_upto_region 2 with (fail)
  all_goals
    try subst_vars
    go_wp2
    go_loopw [3, 40] (fun g i wr => ∃ k : Nat, k ≤ C.extra.length ∧ i = .int .i64 k ∧ g = .bool (headC C && (C.extra.take k).all extB) ∧ Ext W wr) (fun _ i _ => C.extra.length - (intOf i).toNat)
    case atStart => exact ⟨0, by omega, rfl, by have := HNX.out; refine congrArg Value.bool (Bool.eq_iff_iff.2 ⟨fun h => ?_, fun h => ?_⟩) <;> simp [headC] at h ⊢ <;> omega, Ext.refl _⟩
    case round =>
      obtain ⟨k, hk, rfl, rfl, hE⟩ := hrel
      obtain ⟨k0, k1, k2, k3⟩ := HCE.out wr hE
      have HER := Lib.hid hE
      clear hE m00 m01 m02 m03
      by_cases hlt : k < C.extra.length
      · have hlt' := lt_hid HNX hlt
        obtain ⟨wb, wo, hpp, w0⟩ := (HQ.out.ext k3).at k hlt
        subst hpp
        have hat := all_take extB C.extra hlt
        obtain ⟨x0, hx0⟩ : ∃ x : Int, x = C.extra[k] := ⟨_, rfl⟩
        have hwk : extB C.extra[k] = (decide (0 ≤ x0) && decide (x0 ≤ 999)) := by rw [hx0]; rfl
        rw [hwk] at hat
        rw [← hx0] at w0
        obtain ⟨g, hg⟩ : ∃ g, g = (headC C && (C.extra.take k).all extB) := ⟨_, rfl⟩
        have HG := Lib.hid (show (headC C && (C.extra.take (k + 1)).all extB) = (g && (decide (0 ≤ x0) && decide (x0 ≤ 999))) from by rw [hat, hg, Bool.and_assoc])
        rw [← hg]
        clear hx0 hwk hat hg
        cases g
        · go_wp2
          go_roundw
          case rel => exact ⟨k + 1, by omega, by simp, by rw [HG.out]; rfl, HER.out⟩
          case measure => simp [intOf]; omega
        · go_wp2
          all_goals go_roundw
          all_goals first
            | exact ⟨k + 1, by omega, by simp, by rw [HG.out]; refine congrArg Value.bool (Bool.eq_iff_iff.2 ⟨fun h => ?_, fun h => ?_⟩) <;> simp at h ⊢ <;> omega, HER.out⟩
            | (simp [intOf]; omega)
      · have hge := ge_hid HNX hlt
        obtain ⟨g, hg⟩ : ∃ g, g = (headC C && (C.extra.take k).all extB) := ⟨_, rfl⟩
        rw [← hg]
        have HG := Lib.hid (show g = (headC C && C.extra.all extB) from by rw [hg, show k = C.extra.length from by omega, List.take_length])
        clear hg hk hlt
        go_wp2
        go_loopw [3, 64] (fun x i wr2 => ∃ k : Nat, k ≤ C.meters.length ∧ i = .int .i64 k ∧ x = .bool (g && (C.meters.take k).all (mtB C.tto)) ∧ Ext W wr2) (fun _ i _ => C.meters.length - (intOf i).toNat)
        case atStart => exact ⟨0, by omega, rfl, by simp, HER.out⟩
        case round =>
          obtain ⟨k, hk, rfl, rfl, hE2⟩ := hrel
          obtain ⟨k0, k1, k2, k3⟩ := HCE.out _ hE2
          have HER2 := Lib.hid hE2
          clear hE2
          by_cases hlt : k < C.meters.length
          · have hlt' : (k : Int) < (C.meters.length : Int) := by omega
            obtain ⟨rb, ro, p1, d1, p2, d2, hqq, r0, r1, r2, r3, r4⟩ := HP.out.ext k3 k hlt
            subst hqq
            have hat := all_take (mtB C.tto) C.meters hlt
            have hsm := HSM.out _ (List.getElem_mem hlt)
            obtain ⟨M, hM⟩ : ∃ M, M = C.meters[k] := ⟨_, rfl⟩
            have hrd : mtB C.tto M = (decide (chkM M = 0) && decide (C.tto ≤ M.weeks.length)) := by rw [chkM_0]; rfl
            rw [← hM] at hat r0 r1 r2 r3 r4 hsm
            rw [hrd] at hat
            obtain ⟨g2, hg2⟩ : ∃ g2, g2 = (g && (C.meters.take k).all (mtB C.tto)) := ⟨_, rfl⟩
            have HG2 := Lib.hid (show (g && (C.meters.take (k + 1)).all (mtB C.tto)) = (g2 && (decide (chkM M = 0) && decide (C.tto ≤ M.weeks.length))) from by rw [hat, hg2, Bool.and_assoc])
            rw [← hg2]
            have HMV := Lib.hid (⟨r3, r4, hsm⟩ : PairsAt _ p1 M.weeks ∧ PairsAt _ p2 M.reads ∧ M.weeks.length ≤ 40 ∧ M.reads.length ≤ 40)
            clear hrd hat hg2 r3 r4 hsm hM
            go_upto_region 10 with (fail)
            obtain ⟨W5, hW5⟩ : ∃ W5, W5 = wr.alloc (.cells #[.slice p1 M.weeks.length d1, .slice p2 M.reads.length d2, .int .i64 M.wrong] 55) := ⟨_, rfl⟩
            have hE5 : Ext W W5 := by rw [hW5]; exact HER2.out.alloc _
            have hs5 : W5.heap[wr.heap.size]? = some (.cells #[.slice p1 M.weeks.length d1, .slice p2 M.reads.length d2, .int .i64 M.wrong] 55) := by rw [hW5]; exact heap_new _ _
            have hEr : Ext wr W5 := by rw [hW5]; exact Ext.alloc (Ext.refl _) _
            have hCK : Calls Tryz.prog 84 #[.agg #[.slice p1 M.weeks.length d1, .slice p2 M.reads.length d2, .int .i64 M.wrong]] W5 (RetE (.int .i64 (chkM M)) W5) :=
              Check04 M _ W5 ⟨p1, d1, p2, d2, rfl, HMV.out.1.ext hEr, HMV.out.2.1.ext hEr⟩ (by have := HMV.out.2.2; omega) (by have := HMV.out.2.2; omega)
            obtain ⟨rc, hrc⟩ : ∃ rc, rc = wr.heap.size := ⟨_, rfl⟩
            rw [← hrc] at hs5 ⊢
            rw [← hW5]
            have HS5 := Lib.hid hs5
            have HE5 := Lib.hid hE5
            have HCK := Lib.hid hCK
            have d0 : W5.cell? ⟨rc, 0, none⟩ = some (.slice p1 M.weeks.length d1) := cell_of_heap hs5 0
            have e1 : W5.cell? ⟨rc, 1, none⟩ = some (.slice p2 M.reads.length d2) := cell_of_heap hs5 1
            have e2 : W5.cell? ⟨rc, 2, none⟩ = some (.int .i64 M.wrong) := cell_of_heap hs5 2
            obtain ⟨z, hz⟩ : ∃ z, z = chkM M := ⟨_, rfl⟩
            rw [← hz] at HG2 HCK
            clear hW5 hE5 hs5 hEr hCK hrc hz r0 r1 r2 hlt' k0 k1 k2 k3
            cases g2
            · go_wp2
              go_roundw
              case rel => exact ⟨k + 1, by omega, by simp, by rw [HG2.out]; rfl, HE5.out⟩
              case measure => simp [intOf]; omega
            · by_cases hz0 : z = 0
              · subst hz0
                go_wp2_with (go_at_call 84; refine HCK.out.mono ?_; rintro e w6 ⟨rfl, hE6⟩; obtain ⟨-, -, j2, -⟩ := HCE.out _ (HE5.out.trans hE6); have j0 := cell_of_heap (heap_ext3 HS5.out hE6) 0)
                all_goals go_roundw
                all_goals first
                  | exact ⟨k + 1, by omega, by simp, by rw [HG2.out]; refine congrArg Value.bool (Bool.eq_iff_iff.2 ⟨fun h => ?_, fun h => ?_⟩) <;> simp at h ⊢ <;> omega, HE5.out.trans hE6⟩
                  | (simp [intOf]; omega)
              · have hzb : (z == 0) = false := by simpa using hz0
                have HZ := Lib.hid (show decide (z = 0) = false from decide_eq_false hz0)
                clear hz0
                go_wp2_with (go_at_call 84; refine HCK.out.mono ?_; rintro e w6 ⟨rfl, hE6⟩)
                go_roundw
                case rel => exact ⟨k + 1, by omega, by simp, by rw [HG2.out, HZ.out]; rfl, HE5.out.trans hE6⟩
                case measure => simp [intOf]; omega
          · obtain rfl : k = C.meters.length := by omega
            obtain ⟨g2, hg2⟩ : ∃ g2, g2 = (g && (C.meters.take C.meters.length).all (mtB C.tto)) := ⟨_, rfl⟩
            rw [← hg2]
            have hok : g2 = okC C := by rw [hg2, List.take_length, HG.out, okC, Bool.and_assoc]
            have HOK := Lib.hid hok
            have HK3 := Lib.hid k3
            clear hg2 hok hlt k0 k1 k2 k3
            cases g2
            · go_wp2
              go_ret
              exact RetE.fin HK3.out (by unfold chkC; rw [← HOK.out]; rfl)
            · go_wp2
              go_ret
              exact RetE.fin HK3.out (by unfold chkC; rw [← HOK.out]; rfl)
end Go.Proofs.YtppncdbhebgcaaaGreatDoor
namespace Go.Proofs.YtppncdbhebgcaaaGreatDoor
open Go.RowKit

def mtC (C : Ch) (i : Nat) : Mt := C.meters.getD i ⟨[], [], 0⟩
def exC (C : Ch) (i : Nat) : Int := C.extra.getD i 0
/-- the numbers of a title -/
noncomputable def rowC (C : Ch) (i : Nat) : List Int := (sumsA (mtC C i) C.frm C.tto).map (· + exC C i)
noncomputable def tabTo (C : Ch) (k : Nat) : Tab := (List.range k).map (rowC C)
theorem tabTo_succ (C : Ch) (k : Nat) : tabTo C (k + 1) = tabTo C k ++ [rowC C k] := by
  unfold tabTo
  rw [List.range_succ, List.map_append]
  rfl
theorem tabTo_len (C : Ch) (k : Nat) : (tabTo C k).length = k := by unfold tabTo; simp
noncomputable def tabC (C : Ch) : Tab := tabTo C C.meters.length
noncomputable def someN (C : Ch) (k : Nat) : Bool := (List.range k).any fun i => bP (¬askV (mtC C i) true = 0)
theorem someN_succ (C : Ch) (k : Nat) : someN C (k + 1) = (someN C k || bP (¬askV (mtC C k) true = 0)) := by
  unfold someN
  rw [List.range_succ, List.any_append]
  simp
theorem someN_mono {C : Ch} {k n : Nat} (h : k < n) (ha : ¬askV (mtC C k) true = 0) : someN C n = true := by
  unfold someN
  rw [List.any_eq_true]
  exact ⟨k, List.mem_range.2 h, bP_t ha⟩
/-- the error of a chart that is asked for something -/
noncomputable def errC (C : Ch) (is : Bool) : Int := if okC C = true then (if is = true then (if someN C C.meters.length = true then 3 else 0) else 1) else 60
noncomputable def askT (C : Ch) (is : Bool) : Tab := if errC C is = 0 then tabC C else []
theorem errC_bad {C : Ch} (h : ¬ValidC C) (is : Bool) : errC C is = 60 := by unfold errC; rw [if_neg (fun e => h ((okC_iff C).1 e))]
theorem errC_false {C : Ch} (h : ValidC C) : errC C false = 1 := by unfold errC; rw [if_pos ((okC_iff C).2 h), if_neg (by decide)]
theorem errC_none {C : Ch} (h : ValidC C) (hn : someN C C.meters.length = true) : errC C true = 3 := by unfold errC; rw [if_pos ((okC_iff C).2 h), if_pos rfl, if_pos hn]
theorem errC_ok {C : Ch} (h : ValidC C) (hn : someN C C.meters.length = false) : errC C true = 0 := by unfold errC; rw [if_pos ((okC_iff C).2 h), if_pos rfl, if_neg (by rw [hn]; decide)]
theorem askT_ne {C : Ch} {is : Bool} (h : ¬errC C is = 0) : askT C is = [] := by unfold askT; rw [if_neg h]
theorem askT_0 {C : Ch} {is : Bool} (h : errC C is = 0) : askT C is = tabC C := by unfold askT; rw [if_pos h]
theorem mtC_get {C : Ch} {i : Nat} (h : i < C.meters.length) : mtC C i = C.meters[i] := by
  unfold mtC
  rw [List.getD_eq_getElem?_getD, List.getElem?_eq_getElem h]
  rfl
theorem exC_get {C : Ch} {i : Nat} (h : i < C.extra.length) : exC C i = C.extra[i] := by
  unfold exC
  rw [List.getD_eq_getElem?_getD, List.getElem?_eq_getElem h]
  rfl
theorem ValidC.mtI {C : Ch} (h : ValidC C) {i : Nat} (hi : i < C.meters.length) : ValidM (mtC C i) ∧ areB C.frm C.tto (mtC C i).weeks.length = true := by
  rw [mtC_get hi]
  have := h.mt _ (List.getElem_mem hi)
  exact ⟨this.1, areB_iff.2 ⟨h.f0, h.ft, this.2⟩⟩
theorem ownsRow_set {w : World} {B g n c i : Nat} {l : List Int} {m : Int} (h : w.ownsRow B 3 1 (.slice (some ⟨g, 0, none⟩) n c) n (intVs l)) :
    (w.setCell ⟨g, i, none⟩ (.int .i64 m)).ownsRow B 3 1 (.slice (some ⟨g, 0, none⟩) n c) n (intVs (l.set i m)) := by
  have hl : (intVs (l.set i m)).length = (intVs l).length := by simp [intVs]
  refine ⟨hl.trans h.1, ?_⟩
  rcases h.2 with ⟨hv, h0⟩ | ⟨g', cap, cur, hv, hB, hg, hc, hm, hs, hx⟩
  · cases hv
  · cases hv
    refine Or.inr ⟨g, c, cur.setIfInBounds i (.int .i64 m), rfl, hB, heap_set hg rfl, hc, hm, by simpa using hs, ?_⟩
    rw [Array.toList_setIfInBounds, List.take_set, hx]
    simp [intVs, List.map_set]
theorem ownsRow_cell {w : World} {B g n c i : Nat} {l : List Int} (h : w.ownsRow B 3 1 (.slice (some ⟨g, 0, none⟩) n c) n (intVs l)) (hi : i < l.length) :
    w.cell? ⟨g, i, none⟩ = some (.int .i64 l[i]) ∧ w.frozen? ⟨g, i, none⟩ = false := by
  have hn : n = l.length := by have := h.1; rw [intVs_len] at this; omega
  obtain ⟨b, c', he, hc⟩ := ownsRow_at h i (by omega)
  cases he
  refine ⟨?_, ?_⟩
  · rw [hc]; simp [intVs, hi]
  · rcases h.2 with ⟨hv, h0⟩ | ⟨g', cap, cur, hv, hB, hg, hc, hm, hs, hx⟩
    · cases hv
    · cases hv; exact cell_frozen hg i
/-- the first numbers are greater by x -/
def addTo (l : List Int) (x : Int) (k : Nat) : List Int := (l.take k).map (· + x) ++ l.drop k
theorem addTo_zero (l : List Int) (x : Int) : addTo l x 0 = l := by simp [addTo]
theorem addTo_all (l : List Int) (x : Int) : addTo l x l.length = l.map (· + x) := by simp [addTo]
theorem addTo_len (l : List Int) (x : Int) (k : Nat) : (addTo l x k).length = l.length := by simp [addTo]; omega
theorem addTo_at (l : List Int) (x : Int) {k : Nat} (h : k < l.length) : (addTo l x k)[k]? = some l[k] := by
  unfold addTo
  have hk : ((l.take k).map (· + x)).length = k := by simp; omega
  rw [List.getElem?_append_right (by omega), hk, Nat.sub_self]
  simp [h]
theorem addTo_succ (l : List Int) (x : Int) {k : Nat} (h : k < l.length) : addTo l x (k + 1) = (addTo l x k).set k (l[k] + x) := by
  refine List.ext_getElem? fun i => ?_
  rw [List.getElem?_set]
  unfold addTo
  by_cases e : k = i
  · subst e
    rw [if_pos rfl, if_pos (by simp; omega), List.getElem?_append_left (by simp; omega)]
    simp [h]
  · rw [if_neg e]
    by_cases c : i < k
    · rw [List.getElem?_append_left (by simp; omega), List.getElem?_append_left (by simp; omega)]
      simp only [List.getElem?_map, List.getElem?_take]
      rw [if_pos (by omega), if_pos (by omega)]
    · rw [List.getElem?_append_right (by simp; omega), List.getElem?_append_right (by simp; omega)]
      simp only [List.length_map, List.length_take, List.getElem?_drop]
      congr 1
      omega
/-- slices that are no longer than they can be -/
def CapOK (vs : List Value) : Prop := ∀ v ∈ vs, ∃ p n c, v = .slice p n c ∧ n ≤ c
theorem CapOK.nil : CapOK [] := fun v h => by cases h
theorem CapOK.snoc {vs : List Value} {p : Option Addr} {n c : Nat} (h : CapOK vs) (hc : n ≤ c) : CapOK (vs ++ [.slice p n c]) := by
  intro v hv
  rcases List.mem_append.1 hv with h1 | h1
  · exact h v h1
  · exact ⟨p, n, c, List.mem_singleton.1 h1, hc⟩
theorem own_cap {w : World} {B g n c : Nat} {e : TypeId} {size : Nat} {xs : List Value} (h : w.ownsRow B e size (.slice (some ⟨g, 0, none⟩) n c) n xs) : n ≤ c := by
  rcases h.2 with ⟨hv, -⟩ | ⟨g', cap, cur, hv, -, -, hc, -⟩
  · cases hv
  · cases hv; exact hc
/-- a table that a call has laid, and an error -/
def RetTb (T : Tab) (n : Int) (w : World) (e : Ending) (w' : World) : Prop := ∃ v vs, e = .returned (.tuple #[v, .int .i64 n]) ∧ RwV w' w.heap.size v vs T none ∧ Ext w w' ∧ CapOK vs

set_option maxRecDepth 20000 in
set_option maxHeartbeats 16000000 in
theorem ask06 (C : Ch) (is : Bool) (v : Value) (w : World) (hv : ChV w v C) (hs : ChSm C) (hT : TabW w) :
    Calls Tryz.prog 31 #[v, .bool is] w (RetTb (askT C is) (errC C is) w) := by
  have HV := Lib.hid hv
  have HS := Lib.hid hs
  have HT := Lib.hid hT
  obtain ⟨p, c, q, d, rfl, hp, hq⟩ := hv
  have HP := Lib.hid hp
  have HQ := Lib.hid hq
  clear hp hq hT hs
  go_enter Tryz.func31, Tryz.ntmps31
  go_upto_region 1 with (fail)
  obtain ⟨s0, hs0⟩ : ∃ s0, s0 = w.heap.size := ⟨_, rfl⟩
  obtain ⟨W, hW⟩ : ∃ W, W = w.alloc (.cells #[.slice p C.meters.length c, .slice q C.extra.length d, .int .i64 C.frm, .int .i64 C.tto] 25) := ⟨_, rfl⟩
  have m0 : W.heap[s0]? = some (.cells #[.slice p C.meters.length c, .slice q C.extra.length d, .int .i64 C.frm, .int .i64 C.tto] 25) := by rw [hs0, hW]; exact heap_new _ _
  have hE : Ext w W := by rw [hW]; exact (by repeat (first | exact Ext.refl _ | assumption | refine Ext.drewN ?_ _ | refine Ext.drew ?_ | refine Ext.alloc ?_ _))
  rw [← hs0, ← hW]
  have m00 : W.cell? ⟨s0, 0, none⟩ = some (.slice p C.meters.length c) := cell_of_heap m0 0
  have m01 : W.cell? ⟨s0, 1, none⟩ = some (.slice q C.extra.length d) := cell_of_heap m0 1
  have m02 : W.cell? ⟨s0, 2, none⟩ = some (.int .i64 C.frm) := cell_of_heap m0 2
  have m03 : W.cell? ⟨s0, 3, none⟩ = some (.int .i64 C.tto) := cell_of_heap m0 3
  have HCE := Lib.hid (fun y (h : Ext W y) => (⟨h.cell m00, h.cell m01, h.cell m02, h.cell m03, hE.trans h⟩ :
    y.cell? ⟨s0, 0, none⟩ = some (.slice p C.meters.length c) ∧ y.cell? ⟨s0, 1, none⟩ = some (.slice q C.extra.length d) ∧ y.cell? ⟨s0, 2, none⟩ = some (.int .i64 C.frm) ∧ y.cell? ⟨s0, 3, none⟩ = some (.int .i64 C.tto) ∧ Ext w y))
  have HCK := Lib.hid (Check06 C _ W (HV.out.ext hE) HS.out)
  have HE := Lib.hid hE
  clear hW m0 hE hs0
  by_cases hC : ValidC C
  case neg =>
    rw [chkC_f hC] at HCK
    have HER := Lib.hid (errC_bad hC is)
    clear hC
    go_wp2_with (go_at_call 60; refine HCK.out.mono ?_; rintro e w2 ⟨rfl, hE2⟩)
    go_ret2
    exact ⟨_, [], by rw [HER.out]; rfl, by rw [askT_ne (by rw [HER.out]; decide)]; exact RwV.nil _ _ _, HE.out.trans hE2, CapOK.nil⟩
  rw [chkC_t hC] at HCK
  cases is
  case false =>
    have HER := Lib.hid (errC_false hC)
    clear hC
    go_wp2_with (go_at_call 60; refine HCK.out.mono ?_; rintro e w2 ⟨rfl, hE2⟩)
    go_ret2
    exact ⟨_, [], by rw [HER.out]; rfl, by rw [askT_ne (by rw [HER.out]; decide)]; exact RwV.nil _ _ _, HE.out.trans hE2, CapOK.nil⟩
  have HVC := Lib.hid hC
  have hn6 := hC.nm
  have hnx := hC.nx
  have hf0 := hC.f0
  have hft := hC.ft
  have ht5 := hC.t5
  rw [hnx] at m01 HCE HCK ⊢
  have HNX : EqS C.extra.length C.meters.length := ⟨hnx⟩
  obtain ⟨i1, hi1, hz1, hy1, hb1⟩ := info_parts info_b
  have HI1 := Lib.hid (⟨hi1, hz1, hy1, hb1⟩ : _ ∧ _ ∧ _ ∧ _)
  clear hnx hi1 hz1 hy1 hb1 hC
  go_upto_region 7 with (go_at_call 60; refine HCK.out.mono ?_; rintro e W2 ⟨rfl, hE2⟩; obtain ⟨k0, k1, k2, k3, k4⟩ := HCE.out _ hE2)
  have HE2 := Lib.hid hE2
  clear hE2 m00 m01 m02 m03 k1 k2 k3 k4 HCK
  go_wp2
  go_loopw [7, 23] (fun u i wr => ∃ (k : Nat) (vs : List Value), k ≤ C.meters.length ∧ i = .int .i64 k ∧ Ext W2 wr ∧ RwV wr W2.heap.size u vs (tabTo C k) none ∧ someN C k = false ∧ CapOK vs) (fun _ i _ => C.meters.length - (intOf i).toNat)
  case atStart => exact ⟨0, [], Nat.zero_le _, rfl, Ext.refl _, RwV.nil _ _ _, rfl, CapOK.nil⟩
  case round =>
    obtain ⟨k, vs, hk, rfl, hE, hR, hso, hcp⟩ := hrel
    obtain ⟨wo, rfl⟩ : ∃ wo, wo = wr := ⟨_, rfl⟩
    obtain ⟨k0, k1, k2, k3, k4⟩ := HCE.out wo (HE2.out.trans hE)
    have HEW := Lib.hid hE
    have HR := Lib.hid hR
    have HSO := Lib.hid hso
    have HCP := Lib.hid hcp
    clear hE hR hso hcp
    by_cases hlt : k < C.meters.length
    · have hlt' : (k : Int) < (C.meters.length : Int) := by omega
      obtain ⟨rb, ro, p1, d1, p2, d2, hqq, r0, r1, r2, r3, r4⟩ := HP.out.ext k4 k hlt
      subst hqq
      obtain ⟨xb, xo, hxx, x0⟩ := (HQ.out.ext k4).at k (by have := HNX.out; omega)
      subst hxx
      have hsm := HS.out.mt _ (List.getElem_mem hlt)
      have hex := HVC.out.ex _ (List.getElem_mem (show k < C.extra.length by have := HNX.out; omega))
      obtain ⟨hM, har⟩ := HVC.out.mtI hlt
      rw [← mtC_get hlt] at r0 r1 r2 r3 r4 hsm
      rw [← exC_get (show k < C.extra.length by have := HNX.out; omega)] at x0 hex
      have hrow : rowC C k = (sumsA (mtC C k) C.frm C.tto).map (· + exC C k) := rfl
      have hsn := someN_succ C k
      have hlate := fun ha => someN_mono (C := C) hlt ha
      have hak := ask_known hM
      have hbd := fun hz => fun x (hx : x ∈ sumsA (mtC C k) C.frm C.tto) => sumsA_bound hM har hz hx
      have hnem := fun hz => sumsA_ne hM har hz
      have hsl := sumsA_len (mtC C k) C.frm C.tto
      obtain ⟨M, hMe⟩ : ∃ M, M = mtC C k := ⟨_, rfl⟩
      rw [← hMe] at r0 r1 r2 r3 r4 hsm hM har hrow hsn hlate hak hbd hnem hsl
      obtain ⟨x, hx⟩ : ∃ x, x = exC C k := ⟨_, rfl⟩
      rw [← hx] at x0 hex hrow
      have HSU := Lib.hid (fun y (h : Ext wo y) => (by
        have h := Sums04 M C.frm C.tto (.agg #[.slice p1 M.weeks.length d1, .slice p2 M.reads.length d2, .int .i64 M.wrong]) y ⟨p1, d1, p2, d2, rfl, r3.ext h, r4.ext h⟩ (by omega) (by omega) (HT.out.ext (k4.trans h))
        rw [har] at h
        exact h : Calls Tryz.prog 61 #[.agg #[.slice p1 M.weeks.length d1, .slice p2 M.reads.length d2, .int .i64 M.wrong], .int .i64 C.frm, .int .i64 C.tto] y (RetL (okL (askV M true) (bitsI (betTo M C.frm.toNat C.tto.toNat 100))) (askV M true) y)))
      have hLA : okL (askV M true) (bitsI (betTo M C.frm.toNat C.tto.toNat 100)) = sumsA M C.frm C.tto := by unfold sumsA; rw [har]
      rw [hLA] at HSU
      obtain ⟨l, hl⟩ : ∃ l, l = sumsA M C.frm C.tto := ⟨_, rfl⟩
      rw [← hl] at HSU hrow hbd hnem hsl
      obtain ⟨z, hz⟩ : ∃ z, z = askV M true := ⟨_, rfl⟩
      rw [← hz] at HSU hsn hlate hak hbd hnem
      have HRO := Lib.hid hrow
      have HSN := Lib.hid hsn
      have HEA := Lib.hid (⟨hak, hlate⟩ : (z = 0 ∨ z = 3) ∧ (¬z = 0 → someN C C.meters.length = true))
      have HRD := Lib.hid (fun y (h : Ext wo y) => (⟨h.cell r0, h.cell r1, h.cell r2⟩ : y.cell? ⟨rb, ro + k * 3, none⟩ = some (.slice p1 M.weeks.length d1) ∧ y.cell? ⟨rb, ro + k * 3 + 1, none⟩ = some (.slice p2 M.reads.length d2) ∧ y.cell? ⟨rb, ro + k * 3 + 2, none⟩ = some (.int .i64 M.wrong)))
      have X0 := Lib.hid x0
      clear hMe hx hl hz hM har r3 r4 hsm hrow hsn hlate hLA x0
      go_upto_region 10 with (fail)
      obtain ⟨rc, hrc⟩ : ∃ rc, rc = wo.heap.size := ⟨_, rfl⟩
      obtain ⟨W5, hW5⟩ : ∃ W5, W5 = wo.alloc (.cells #[.slice p1 M.weeks.length d1, .slice p2 M.reads.length d2, .int .i64 M.wrong] 55) := ⟨_, rfl⟩
      have hE5 : Ext wo W5 := by rw [hW5]; exact Ext.alloc (Ext.refl _) _
      have hs5 : W5.heap[rc]? = some (.cells #[.slice p1 M.weeks.length d1, .slice p2 M.reads.length d2, .int .i64 M.wrong] 55) := by rw [hW5, hrc]; exact heap_new _ _
      rw [← hrc, ← hW5]
      have c0 : W5.cell? ⟨rc, 0, none⟩ = some (.slice p1 M.weeks.length d1) := cell_of_heap hs5 0
      have c1 : W5.cell? ⟨rc, 1, none⟩ = some (.slice p2 M.reads.length d2) := cell_of_heap hs5 1
      have c2 : W5.cell? ⟨rc, 2, none⟩ = some (.int .i64 M.wrong) := cell_of_heap hs5 2
      obtain ⟨k0, k1, k2, k3, k4⟩ := HCE.out W5 (HE2.out.trans (HEW.out.trans hE5))
      have HE5 := Lib.hid hE5
      have HSU := Lib.hid (HSU.out W5 hE5)
      clear hW5 hs5 hE5 hrc r0 r1 r2 k4
      by_cases hz0 : z = 0
      case neg =>
        have hz3 : z = 3 := HEA.out.1.resolve_left hz0
        have HER := Lib.hid (errC_none HVC.out (HEA.out.2 hz0))
        subst hz3
        clear hz0
        go_wp2_with (go_at_call 61; refine HSU.out.mono ?_; rintro e w6 ⟨u6, rfl, hO6, hE6⟩)
        go_ret2
        exact ⟨_, [], by rw [HER.out]; rfl, by rw [askT_ne (by rw [HER.out]; decide)]; exact RwV.nil _ _ _, HE.out.trans (HE2.out.trans (HEW.out.trans (HE5.out.trans hE6))), CapOK.nil⟩
      subst hz0
      have hbd := hbd rfl
      have hl0 : 0 < l.length := List.length_pos_iff.2 (hnem rfl)
      have HSN1 := Lib.hid (show someN C (k + 1) = false from by rw [HSN.out, HSO.out, bP_f (fun h => h rfl)]; rfl)
      have HBD := Lib.hid hbd
      clear hak hbd hnem HSN HEA
      go_upto_region 13 with (go_at_call 61; refine HSU.out.mono ?_; rintro e W6 ⟨u6, rfl, hO6, hE6⟩)
      obtain ⟨g, cg, rfl, -⟩ := ownsRow_at hO6 0 hl0
      have hE16 := HE5.out.trans hE6
      have hgB : wo.heap.size ≤ g := Nat.le_trans HE5.out.size (hO6.lt g rfl).1
      have HO6 := Lib.hid (ownsRow_base hO6 HE5.out.size)
      have HGB := Lib.hid hgB
      have HE16 := Lib.hid hE16
      have HCG := Lib.hid (fun y (h : Ext wo y) => (⟨(HCE.out y (HE2.out.trans (HEW.out.trans h))).2.1, h.cell X0.out⟩ : y.cell? ⟨s0, 1, none⟩ = some (.slice (some ⟨xb, xo, none⟩) C.meters.length d) ∧ y.cell? ⟨xb, xo + k, none⟩ = some (.int .i64 x)))
      clear hO6 hE6 hE16 hgB k0 k1 k2 k3 c0 c1 c2 HSU
      go_wp2
      go_loopw [42] (fun i w2 => ∃ j : Nat, j ≤ l.length ∧ i = .int .i64 j ∧ Ups g W6 w2 ∧ w2.ownsRow wo.heap.size 3 1 (.slice (some ⟨g, 0, none⟩) l.length cg) l.length (intVs (addTo l x j))) (fun i _ => l.length - (intOf i).toNat)
      case atStart => exact ⟨0, Nat.zero_le _, rfl, Ups.refl _ _, by rw [addTo_zero]; exact HO6.out⟩
      case round =>
        obtain ⟨j, hj, rfl, hU, hO⟩ := hrel
        have hEY : Ext wo wr := HE16.out.ups hU HGB.out
        have HUY := Lib.hid hU
        have HOY := Lib.hid hO
        have HEY := Lib.hid hEY
        by_cases hjl : j < l.length
        · have hjl' : (j : Int) < (l.length : Int) := by omega
          obtain ⟨hc, hfz⟩ := ownsRow_cell hO (i := j) (by rw [addTo_len]; exact hjl)
          have hva : (addTo l x j)[j]'(by rw [addTo_len]; exact hjl) = l[j] := by
            have := addTo_at l x hjl
            rw [List.getElem?_eq_getElem (by rw [addTo_len]; exact hjl)] at this
            exact Option.some.inj this
          rw [hva] at hc
          have hab := HBD.out l[j] (List.getElem_mem hjl)
          have hsu := addTo_succ l x hjl
          obtain ⟨a, ha⟩ : ∃ a, a = l[j] := ⟨_, rfl⟩
          rw [← ha] at hc hab hsu
          have hw : IntKind.i64.wrap (a + x) = a + x := IntWalk.i64_in _ (by omega)
          have HSU := Lib.hid hsu
          have HKC := Lib.hid (fun y (h : Ext wr y) => (⟨h.cell hc, (HCG.out y (hEY.trans h)).1, (HCG.out y (hEY.trans h)).2⟩ :
            y.cell? ⟨g, j, none⟩ = some (.int .i64 a) ∧ y.cell? ⟨s0, 1, none⟩ = some (.slice (some ⟨xb, xo, none⟩) C.meters.length d) ∧ y.cell? ⟨xb, xo + k, none⟩ = some (.int .i64 x)))
          clear hva ha hsu hc hfz hU hO hEY
          go_upto_region 16 with (fail)
          refine wp_region_facts 10 [[], [], [0, 1], [2], [], [4], [], [5, 6], [7], [3, 8]] [0, 1, 9] Ext (FL [Is (.slice (some ⟨g, 0, none⟩) l.length cg), Is (.int .i64 (j : Int)), Is (.pointer (some ⟨g, j, none⟩)), Is (.int .i64 a), Is (.pointer (some ⟨s0, 1, none⟩)), Is (.slice (some ⟨xb, xo, none⟩) C.meters.length d), Is (.int .i64 (k : Int)), Is (.pointer (some ⟨xb, xo + k, none⟩)), Is (.int .i64 x), Is (.int .i64 (a + x))]) (by kernel_rfl) (by kernel_rfl) Ext.refl (fun _ _ _ => Ext.trans) (fun _ _ => Ext.size) (FL.mono ⟨Is.mono, Is.mono, Is.mono, Is.mono, Is.mono, Is.mono, Is.mono, Is.mono, Is.mono, Is.mono, trivial⟩) ⟨?_, ?_, ?_, ?_, ?_, ?_, ?_, ?_, ?_, ?_, trivial⟩ ?_
          · refine opF_step ?_
            intro ys l0 h0 w' hr hf K hK
            clear hf
            simp only [fill, Act.put, dstO, List.take_succ_cons, List.take_zero, List.setIfInBounds_toArray, List.set_cons_zero, List.set_cons_succ, List.getElem?_cons_zero, Nat.zero_add, Nat.reduceAdd] at hK ⊢
            refine OpB.mk' ?_
            go_simp
            exact hK.out _ _ rfl (Ext.refl _)
          · refine opF_step ?_
            intro ys l0 h0 w' hr hf K hK
            clear hf
            simp only [fill, Act.put, dstO, List.take_succ_cons, List.take_zero, List.setIfInBounds_toArray, List.set_cons_zero, List.set_cons_succ, List.getElem?_cons_zero, List.getElem?_cons_succ, Nat.zero_add, Nat.reduceAdd] at hK ⊢
            refine OpB.mk' ?_
            go_simp
            exact hK.out _ _ rfl (Ext.refl _)
          · refine opF_step ?_
            intro ys l0 h0 w' hr hf K hK
            obtain ⟨f0, f1, -⟩ := hf
            have e0 : ys 0 = _ := f0
            have e1 : ys 1 = _ := f1
            simp only [fill, Act.put, dstO, List.take_succ_cons, List.take_zero, List.setIfInBounds_toArray, List.set_cons_zero, List.set_cons_succ, List.getElem?_cons_zero, List.getElem?_cons_succ, Nat.zero_add, Nat.reduceAdd] at hK ⊢
            simp only [e0, e1] at hK ⊢
            clear e0 e1 f0 f1
            refine OpB.mk' ?_
            go_simp
            exact hK.out _ _ rfl (Ext.refl _)
          · refine opF_step ?_
            intro ys l0 h0 w' hr hf K hK
            obtain ⟨f0, -⟩ := hf
            have e0 : ys 2 = _ := f0
            obtain ⟨j0, j1, j2⟩ := HKC.out w' ((Ext.refl wr).drew.trans hr)
            simp only [fill, Act.put, dstO, List.take_succ_cons, List.take_zero, List.setIfInBounds_toArray, List.set_cons_zero, List.set_cons_succ, List.getElem?_cons_zero, List.getElem?_cons_succ, Nat.zero_add, Nat.reduceAdd] at hK ⊢
            simp only [e0] at hK ⊢
            clear e0 f0
            refine OpB.mk' ?_
            go_simp
            exact hK.out _ _ rfl (Ext.refl _)
          · refine opF_step ?_
            intro ys l0 h0 w' hr hf K hK
            clear hf
            simp only [fill, Act.put, dstO, List.take_succ_cons, List.take_zero, List.setIfInBounds_toArray, List.set_cons_zero, List.set_cons_succ, List.getElem?_cons_zero, List.getElem?_cons_succ, Nat.zero_add, Nat.reduceAdd] at hK ⊢
            refine OpB.mk' ?_
            go_simp
            exact hK.out _ _ rfl (Ext.refl _)
          · refine opF_step ?_
            intro ys l0 h0 w' hr hf K hK
            obtain ⟨f0, -⟩ := hf
            have e0 : ys 4 = _ := f0
            obtain ⟨j0, j1, j2⟩ := HKC.out w' ((Ext.refl wr).drew.trans hr)
            simp only [fill, Act.put, dstO, List.take_succ_cons, List.take_zero, List.setIfInBounds_toArray, List.set_cons_zero, List.set_cons_succ, List.getElem?_cons_zero, List.getElem?_cons_succ, Nat.zero_add, Nat.reduceAdd] at hK ⊢
            simp only [e0] at hK ⊢
            clear e0 f0
            refine OpB.mk' ?_
            go_simp
            exact hK.out _ _ rfl (Ext.refl _)
          · refine opF_step ?_
            intro ys l0 h0 w' hr hf K hK
            clear hf
            simp only [fill, Act.put, dstO, List.take_succ_cons, List.take_zero, List.setIfInBounds_toArray, List.set_cons_zero, List.set_cons_succ, List.getElem?_cons_zero, List.getElem?_cons_succ, Nat.zero_add, Nat.reduceAdd] at hK ⊢
            refine OpB.mk' ?_
            go_simp
            exact hK.out _ _ rfl (Ext.refl _)
          · refine opF_step ?_
            intro ys l0 h0 w' hr hf K hK
            obtain ⟨f0, f1, -⟩ := hf
            have e0 : ys 5 = _ := f0
            have e1 : ys 6 = _ := f1
            simp only [fill, Act.put, dstO, List.take_succ_cons, List.take_zero, List.setIfInBounds_toArray, List.set_cons_zero, List.set_cons_succ, List.getElem?_cons_zero, List.getElem?_cons_succ, Nat.zero_add, Nat.reduceAdd] at hK ⊢
            simp only [e0, e1] at hK ⊢
            clear e0 e1 f0 f1
            refine OpB.mk' ?_
            go_simp
            exact hK.out _ _ rfl (Ext.refl _)
          · refine opF_step ?_
            intro ys l0 h0 w' hr hf K hK
            obtain ⟨f0, -⟩ := hf
            have e0 : ys 7 = _ := f0
            obtain ⟨j0, j1, j2⟩ := HKC.out w' ((Ext.refl wr).drew.trans hr)
            simp only [fill, Act.put, dstO, List.take_succ_cons, List.take_zero, List.setIfInBounds_toArray, List.set_cons_zero, List.set_cons_succ, List.getElem?_cons_zero, List.getElem?_cons_succ, Nat.zero_add, Nat.reduceAdd] at hK ⊢
            simp only [e0] at hK ⊢
            clear e0 f0
            refine OpB.mk' ?_
            go_simp
            exact hK.out _ _ rfl (Ext.refl _)
          · refine opF_step ?_
            intro ys l0 h0 w' hr hf K hK
            obtain ⟨f0, f1, -⟩ := hf
            have e0 : ys 3 = _ := f0
            have e1 : ys 8 = _ := f1
            simp only [fill, Act.put, dstO, List.take_succ_cons, List.take_zero, List.setIfInBounds_toArray, List.set_cons_zero, List.set_cons_succ, List.getElem?_cons_zero, List.getElem?_cons_succ, Nat.zero_add, Nat.reduceAdd] at hK ⊢
            simp only [e0, e1] at hK ⊢
            clear e0 e1 f0 f1
            refine OpB.mk' ?_
            go_simp
            exact hK.out _ _ rfl (Ext.refl _)
          intro ys l0 h0 w2 hr hf hsp
          obtain ⟨f0, f1, f9, -⟩ := hf
          have e0 : ys 0 = _ := f0
          have e1 : ys 1 = _ := f1
          have e9 : ys 9 = _ := f9
          simp only [fill, Act.put, List.take_succ_cons, List.take_zero, List.setIfInBounds_toArray, List.set_cons_zero, List.set_cons_succ, Nat.zero_add, Nat.reduceAdd, List.drop_succ_cons, List.drop_zero]
          rw [e0, e1, e9]
          clear e0 f0 e1 f1 e9 f9 hsp
          have hEW2 : Ext wr w2 := (Ext.refl wr).drew.trans hr
          have hO2 := ownsRow_ext HOY.out hEW2
          obtain ⟨hc2, hf2⟩ := ownsRow_cell hO2 (i := j) (by rw [addTo_len]; exact hjl)
          have HO2 := Lib.hid hO2
          have HU2 := Lib.hid (HUY.out.trans (Ups.ext hEW2))
          clear hO2 hEW2 hr
          go_wp2
          go_roundw
          case rel => exact ⟨j + 1, by omega, by simp, HU2.out.setCell _ _, by rw [HSU.out]; exact ownsRow_set HO2.out⟩
          case measure => simp [intOf]; omega
        · obtain rfl : j = l.length := by omega
          have hge : ¬(l.length : Int) < (l.length : Int) := by omega
          rw [addTo_all, ← HRO.out] at hO
          have hln : l.length = (rowC C k).length := by rw [HRO.out]; simp
          have hlv : vs.length = k := by have := HR.out.len; rw [tabTo_len] at this; exact this
          have hni := fun r (hr : ∀ b, r = some b → b < wo.heap.size) => own_ne_ints hln hO r hr
          have HNI := Lib.hid (fun r (hr : ∀ b, r = some b → b < wo.heap.size) => (by
            obtain ⟨q', c', he, hn⟩ := own_ne_ints hln hO r hr
            cases he
            exact hn : IntsNe r wr (some ⟨g, 0, none⟩) (rowC C k)))
          have HLN : EqS l.length (rowC C k).length := ⟨hln⟩
          have HLV : EqS vs.length k := ⟨hlv⟩
          clear hln hlv hni hU hO hEY
          have hsz := HEY.out.size
          have hszw := HEW.out.size
          go_wp2_with (at_builtin; refine wpList_append_lies _ rfl (.tmp 57) (.tmp 59) 69 rfl W2.heap.size 23 i1 (.slice none 0 0) 1 24 Tryz.underlying69 HI1.out.1 HI1.out.2.1 HI1.out.2.2.1 HI1.out.2.2.2 rfl (by decide) _ vs.length vs rfl (ownsRow_ext HR.out.out (HEY.out.alloc _)) ⟨wr.heap.size, 0, none⟩ 1 1 [.slice (some ⟨g, 0, none⟩) l.length cg] rfl rfl (hnewsE (Ext.refl _) rfl) (fun u hu => by rw [List.mem_singleton.1 hu]; rfl) (by decide) ?c3 ?c4 ?c5 (wr.heap.size + 1) (size_alloc _ _) ?_)
          case c3 => have := HLV.out; unfold maxLen; omega
          case c4 => have := HLV.out; omega
          case c5 => first | omega | (rw [size_alloc]; omega)
          intro g4 cap4 w4 hown4 hgr4 hat4 hlt4
          have hE4 : Ext W2 w4 := Below.grown (HEW.out.trans (HEY.out.alloc _)) hgr4 (HEW.out.trans (HEY.out.alloc _)).size (fun i hi => (HR.out.out.lt i hi).1)
          have hstep := HR.out.step (r := none) (xs := [.slice (some ⟨g, 0, none⟩) l.length cg]) (Ms := [rowC C k]) (HEY.out.alloc _) rfl (fun i hi => by
            obtain rfl : i = 0 := by simpa using hi
            exact ⟨_, cg, by rw [HLN.out]; rfl, (HNI.out _ (fun b hb => (HR.out.out.lt b hb).2)).ext (Ext.alloc (Ext.refl _) _)⟩) (fun i hi => by
            obtain rfl : i = 0 := by simpa using hi
            exact ⟨_, cg, by rw [HLN.out]; rfl, (HNI.out _ (fun b hb => by cases hb)).ext (Ext.alloc (Ext.refl _) _)⟩) hown4 hgr4 (by rw [size_alloc]; exact hat4)
          rw [← tabTo_succ] at hstep
          have HE4 := Lib.hid hE4
          have HST := Lib.hid hstep
          clear hown4 hgr4 hat4 hlt4 hE4 hstep
          go_wp2
          go_roundw
          case rel => exact ⟨k + 1, _, by omega, by simp, HE4.out, HST.out, HSN1.out, HCP.out.snoc (own_cap HO6.out)⟩
          case measure => simp [intOf]; omega
    · obtain rfl : k = C.meters.length := by omega
      have hlt' : ¬(C.meters.length : Int) < (C.meters.length : Int) := by omega
      have HER := Lib.hid (errC_ok HVC.out HSO.out)
      go_wp2
      go_ret2
      exact ⟨_, vs, by rw [HER.out]; rfl, by rw [askT_0 HER.out]; exact HR.out.base (HE.out.trans HE2.out).size, HE.out.trans (HE2.out.trans HEW.out), HCP.out⟩
end Go.Proofs.YtppncdbhebgcaaaGreatDoor
namespace Go.Proofs.YtppncdbhebgcaaaGreatDoor
open Go.RowKit

theorem someN_at {C : Ch} {n k : Nat} (h : someN C n = false) (hk : k < n) : askV (mtC C k) true = 0 := by
  refine Classical.byContradiction fun ha => ?_
  rw [someN_mono hk ha] at h
  cases h
theorem errC_0 {C : Ch} {is : Bool} (h : errC C is = 0) : ValidC C ∧ is = true ∧ someN C C.meters.length = false := by
  unfold errC at h
  by_cases h1 : okC C = true
  · rw [if_pos h1] at h
    cases is with
    | false => simp at h
    | true =>
      refine ⟨(okC_iff C).1 h1, rfl, ?_⟩
      rw [if_pos rfl] at h
      cases hn : someN C C.meters.length with
      | false => rfl
      | true => rw [hn] at h; simp at h
  · rw [if_neg h1] at h; cases h
theorem tabC_len (C : Ch) : (tabC C).length = C.meters.length := tabTo_len C _
theorem mem_tabC {C : Ch} {l : List Int} (h : l ∈ tabC C) : ∃ i, i < C.meters.length ∧ l = rowC C i := by
  obtain ⟨i, hi, rfl⟩ := List.mem_map.1 h
  exact ⟨i, List.mem_range.1 hi, rfl⟩
/-- what a table of a chart is -/
structure TabG (T : Tab) : Prop where
  ok : TabOK T
  len : T.length ≤ 6
  ls : ∀ l ∈ T, l.length ≤ 2000
  bd : ∀ l ∈ T, ∀ v ∈ l, 0 ≤ v ∧ v ≤ 2499
theorem tabC_ok {C : Ch} (h : ValidC C) (hn : someN C C.meters.length = false) : TabG (tabC C) := by
  have key : ∀ i, i < C.meters.length → (rowC C i ≠ [] ∧ (rowC C i).Pairwise (· < ·)) ∧ (rowC C i).length ≤ 2000 ∧ ∀ v ∈ rowC C i, 0 ≤ v ∧ v ≤ 2499 := by
    intro i hi
    obtain ⟨hM, har⟩ := h.mtI hi
    have hz := someN_at hn hi
    have hx := h.ex _ (List.getElem_mem (show i < C.extra.length by rw [h.nx]; exact hi))
    rw [← exC_get (by rw [h.nx]; exact hi)] at hx
    have hs : (sumsA (mtC C i) C.frm C.tto).Pairwise (· < ·) := by
      rw [(sumsA_list hM har hz).1, List.pairwise_map]
      exact (bitsN_rises _).imp fun h => by omega
    refine ⟨map_add_ok _ ⟨sumsA_ne hM har hz, hs⟩, ?_, fun v hv => ?_⟩
    · unfold rowC
      have := sumsA_len (mtC C i) C.frm C.tto
      rw [List.length_map]
      omega
    · obtain ⟨y, hy, rfl⟩ := List.mem_map.1 hv
      have := sumsA_bound hM har hz hy
      omega
  refine ⟨fun l hl => ?_, by rw [tabC_len]; exact h.nm, fun l hl => ?_, fun l hl => ?_⟩ <;> obtain ⟨i, hi, rfl⟩ := mem_tabC hl
  · exact (key i hi).1
  · exact (key i hi).2.1
  · exact (key i hi).2.2
def TabF (T : Tab) (z : Int) (B : Nat) (v : Value) (_ _ : Nat) (w : World) : Prop := ∃ u vs, v = .tuple #[u, .int .i64 z] ∧ RwV w B u vs T none ∧ CapOK vs
theorem TabF.mono {T : Tab} {z : Int} {B : Nat} : ∀ v s t w w', Ext w w' → TabF T z B v s t w → TabF T z B v s t w' := fun _ _ _ _ _ hE ⟨u, vs, h1, h2, h3⟩ => ⟨u, vs, h1, h2.ext hE, h3⟩
def RowF (T : Tab) (B : Nat) (v : Value) (_ _ : Nat) (w : World) : Prop := ∃ vs, RwV w B v vs T none ∧ CapOK vs
theorem RowF.mono {T : Tab} {B : Nat} : ∀ v s t w w', Ext w w' → RowF T B v s t w → RowF T B v s t w' := fun _ _ _ _ _ hE ⟨vs, h2, h3⟩ => ⟨vs, h2.ext hE, h3⟩
noncomputable def numsA (C : Ch) (n : Int) : List Int := rowT (askT C (isTB C n)) n.toNat
noncomputable def errT (C : Ch) (n : Int) : Int := errC C (isTB C n)
noncomputable def errF (C : Ch) (n : Int) : Int := errC C (isFB C n)
theorem rowT_nil (i : Nat) : rowT [] i = [] := by simp [rowT]
end Go.Proofs.YtppncdbhebgcaaaGreatDoor
