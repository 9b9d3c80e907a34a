
/- Charts: a chart and a table in memory; the small functions of package charts. -/
import Derived.Test.YtaoamnhchidjfaaDoorXK
import Derived.Test.YtaoamnhchidjfaaDoorQ8b
import Derived.Test.YtaoamnhchidjfaaDoorC6d
namespace Go.Proofs.YtaoamnhchidjfaaDoor
open Go.RowKit

structure Ch where
  meters : List Mt
  extra : List Int
  frm : Int
  tto : Int
/-- a slice of meters (three cells each) -/
def MtsAt (w : World) (p : Option Addr) (L : List Mt) : Prop :=
  ∀ i (h : i < L.length), ∃ b o p1 d1 p2 d2, p = some ⟨b, o, none⟩ ∧ w.cell? ⟨b, o + i * 3, none⟩ = some (.slice p1 L[i].weeks.length d1) ∧ w.cell? ⟨b, o + i * 3 + 1, none⟩ = some (.slice p2 L[i].reads.length d2) ∧
    w.cell? ⟨b, o + i * 3 + 2, none⟩ = some (.int .i64 L[i].wrong) ∧ PairsAt w p1 L[i].weeks ∧ PairsAt w p2 L[i].reads
theorem MtsAt.ext {w w' : World} {p : Option Addr} {L : List Mt} (h : MtsAt w p L) (hE : Ext w w') : MtsAt w' p L := by
  intro i hi
  obtain ⟨b, o, p1, d1, p2, d2, hp, h0, h1, h2, h3, h4⟩ := h i hi
  exact ⟨b, o, p1, d1, p2, d2, hp, hE.cell h0, hE.cell h1, hE.cell h2, h3.ext hE, h4.ext hE⟩
/-- a chart -/
def ChV (w : World) (v : Value) (C : Ch) : Prop := ∃ p c q d, v = .agg #[.slice p C.meters.length c, .slice q C.extra.length d, .int .i64 C.frm, .int .i64 C.tto] ∧ MtsAt w p C.meters ∧ IntsAt w q C.extra
theorem ChV.ext {w w' : World} {v : Value} {C : Ch} (h : ChV w v C) (hE : Ext w w') : ChV w' v C := by
  obtain ⟨p, c, q, d, e, h1, h2⟩ := h
  exact ⟨p, c, q, d, e, h1.ext hE, h2.ext hE⟩
/-- no more than so much of anything -/
structure ChSm (C : Ch) : Prop where
  nm : C.meters.length ≤ 20
  nx : C.extra.length ≤ 40
  mt : ∀ M ∈ C.meters, M.weeks.length ≤ 40 ∧ M.reads.length ≤ 40
def headC (C : Ch) : Bool := decide (C.meters.length ≤ 6) && (decide (C.extra.length = C.meters.length) && (decide (0 ≤ C.frm) && (decide (C.frm ≤ C.tto) && decide (C.tto ≤ 5))))
def extB (x : Int) : Bool := decide (0 ≤ x) && decide (x ≤ 999)
def mtB (t : Int) (M : Mt) : Bool := okB M && decide (t ≤ M.weeks.length)
def okC (C : Ch) : Bool := headC C && (C.extra.all extB && C.meters.all (mtB C.tto))
structure ValidC (C : Ch) : Prop where
  nm : C.meters.length ≤ 6
  nx : C.extra.length = C.meters.length
  f0 : 0 ≤ C.frm
  ft : C.frm ≤ C.tto
  t5 : C.tto ≤ 5
  ex : ∀ x ∈ C.extra, 0 ≤ x ∧ x ≤ 999
  mt : ∀ M ∈ C.meters, ValidM M ∧ C.tto ≤ M.weeks.length
theorem okC_iff (C : Ch) : okC C = true ↔ ValidC C := by
  unfold okC headC extB mtB
  simp only [Bool.and_eq_true, decide_eq_true_eq, List.all_eq_true]
  constructor
  · rintro ⟨⟨h1, h2, h3, h4, h5⟩, h6, h7⟩
    exact ⟨h1, h2, h3, h4, h5, fun x hx => h6 x hx, fun M hM => ⟨(okB_iff M).1 (h7 M hM).1, (h7 M hM).2⟩⟩
  · rintro ⟨h1, h2, h3, h4, h5, h6, h7⟩
    exact ⟨⟨h1, h2, h3, h4, h5⟩, fun x hx => h6 x hx, fun M hM => ⟨(okB_iff M).2 (h7 M hM).1, (h7 M hM).2⟩⟩
def chkC (C : Ch) : Int := if okC C = true then 0 else 60
theorem chkC_t {C : Ch} (h : ValidC C) : chkC C = 0 := by unfold chkC; rw [if_pos ((okC_iff C).2 h)]
theorem chkC_f {C : Ch} (h : ¬ValidC C) : chkC C = 60 := by unfold chkC; rw [if_neg (fun e => h ((okC_iff C).1 e))]
theorem chkM_0 (M : Mt) : decide (chkM M = 0) = okB M := by
  unfold chkM
  cases okB M <;> simp
theorem ListsAt.row {w : World} {p : Option Addr} {T : Tab} (h : ListsAt w p T) {i : Nat} (hi : i < T.length) : ∃ b o q c, p = some ⟨b, o, none⟩ ∧ w.cell? ⟨b, o + i, none⟩ = some (.slice q (rowT T i).length c) ∧ IntsAt w q (rowT T i) := by
  obtain ⟨b, o, q, c, h1, h2, h3⟩ := h.at i hi
  rw [rowT_get hi]
  exact ⟨b, o, q, c, h1, h2, h3⟩
theorem RwV.lists {w : World} {B : Nat} {v : Value} {vs : List Value} {L : Tab} {r : Option Nat} (h : RwV w B v vs L r) : ∃ q c, v = .slice q L.length c ∧ ListsAt w q L := by
  obtain ⟨q, c, rfl⟩ := h.slice
  refine ⟨q, c, by rw [h.len], fun i hi => ?_⟩
  have hiv : i < vs.length := by rw [h.len]; exact hi
  obtain ⟨b, cc, he, hc⟩ := ownsRow_at h.out i hiv
  obtain ⟨p, c', h1, h2⟩ := h.row i hi
  injection he with he1 he2 he3
  rw [h1] at hc
  refine ⟨b, 0, .slice p L[i].length c', he1, ?_, p, c', rfl, h2.ints⟩
  rw [Nat.zero_add]
  exact hc

set_option maxRecDepth 20000 in
theorem isTitle06 (C : Ch) (n : Int) (v : Value) (w : World) (hv : ChV w v C) :
    Calls Tryd.prog 28 #[v, .int .i64 n] w (RetE (.bool (decide (0 ≤ n) && decide (n < C.meters.length))) w) := by
  obtain ⟨p, c, q, d, rfl, hp, hq⟩ := hv
  clear hp hq
  go_enter Tryd.func28, Tryd.ntmps28
  by_cases h0 : 0 ≤ n
  · by_cases h1 : n < C.meters.length
    · have hb : (decide (0 ≤ n) && decide (n < (C.meters.length : Int))) = true := by simp [h0, h1]
      rw [hb]
      clear hb
      go_wp2
      go_ret
      exact RetE.fin (by repeat (first | exact Ext.refl _ | assumption | refine Ext.drewN ?_ _ | refine Ext.drew ?_ | refine Ext.alloc ?_ _)) rfl
    · have hb : (decide (0 ≤ n) && decide (n < (C.meters.length : Int))) = false := by simp [h1]
      rw [hb]
      clear hb
      go_wp2
      go_ret
      exact RetE.fin (by repeat (first | exact Ext.refl _ | assumption | refine Ext.drewN ?_ _ | refine Ext.drew ?_ | refine Ext.alloc ?_ _)) rfl
  · have hb : (decide (0 ≤ n) && decide (n < (C.meters.length : Int))) = false := by simp [h0]
    rw [hb]
    clear hb
    go_wp2
    go_ret
    exact RetE.fin (by repeat (first | exact Ext.refl _ | assumption | refine Ext.drewN ?_ _ | refine Ext.drew ?_ | refine Ext.alloc ?_ _)) rfl
def isTB (C : Ch) (n : Int) : Bool := decide (0 ≤ n) && decide (n < C.meters.length)
def isFB (C : Ch) (n : Int) : Bool := decide (1 ≤ n) && decide (n ≤ C.meters.length)
theorem isTB_iff {C : Ch} {n : Int} : isTB C n = true ↔ 0 ≤ n ∧ n < C.meters.length := by simp [isTB]
theorem isFB_iff {C : Ch} {n : Int} : isFB C n = true ↔ 1 ≤ n ∧ n ≤ C.meters.length := by simp [isFB]
theorem wf_range {n : Int} (h : (Lit.int .i64 n).wf = true) : -9223372036854775808 ≤ n ∧ n ≤ 9223372036854775807 := by
  simp [Lit.wf, IntKind.min, IntKind.max, IntKind.signed, IntKind.bits] at h
  omega
theorem wrap_less {n : Int} {k : Nat} (h : (Lit.int .i64 n).wf = true) (hk : k ≤ 1000) : (decide (0 ≤ IntKind.i64.wrap (n - 1)) && decide (IntKind.i64.wrap (n - 1) < (k : Int))) = (decide (1 ≤ n) && decide (n ≤ (k : Int))) := by
  have hr : -9223372036854775808 ≤ n ∧ n ≤ 9223372036854775807 := wf_range h
  rw [IntKind.wrap_i64, Bool.eq_iff_iff, Bool.and_eq_true, Bool.and_eq_true, decide_eq_true_eq, decide_eq_true_eq, decide_eq_true_eq, decide_eq_true_eq]
  omega
set_option maxRecDepth 20000 in
theorem isFirst06 (C : Ch) (n : Int) (v : Value) (w : World) (hv : ChV w v C) (hw : (Lit.int .i64 n).wf = true) (hl : C.meters.length ≤ 1000) :
    Calls Tryd.prog 34 #[v, .int .i64 n] w (RetE (.bool (isFB C n)) w) := by
  have HV := Lib.hid hv
  have HB := Lib.hid (wrap_less hw hl)
  obtain ⟨p, c, q, d, rfl, hp, hq⟩ := hv
  clear hp hq hw
  go_enter Tryd.func34, Tryd.ntmps34
  go_upto_region 1 with (fail)
  obtain ⟨s0, hs0⟩ : ∃ s0, s0 = w.heap.size := ⟨_, rfl⟩
  obtain ⟨W, hW⟩ : ∃ W, W = w.alloc (.cells #[.slice p C.meters.length c, .slice q C.extra.length d, .int .i64 C.frm, .int .i64 C.tto] 25) := ⟨_, rfl⟩
  have m0 : W.heap[s0]? = some (.cells #[.slice p C.meters.length c, .slice q C.extra.length d, .int .i64 C.frm, .int .i64 C.tto] 25) := by rw [hs0, hW]; exact heap_new _ _
  have hE : Ext w W := by rw [hW]; exact (by repeat (first | exact Ext.refl _ | assumption | refine Ext.drewN ?_ _ | refine Ext.drew ?_ | refine Ext.alloc ?_ _))
  rw [← hs0, ← hW]
  have a0 := cell_of_heap m0 0
  have a1 := cell_of_heap m0 1
  have a2 := cell_of_heap m0 2
  have a3 := cell_of_heap m0 3
  have HE := Lib.hid hE
  obtain ⟨m, hm⟩ : ∃ m, m = IntKind.i64.wrap (n - 1) := ⟨_, rfl⟩
  rw [← hm] at HB
  have HT := Lib.hid (isTitle06 C m _ W (HV.out.ext hE))
  rw [HB.out] at HT
  have hm' := hm.symm
  clear hW m0 hE hs0 hm
  go_wp2_with (go_at_call 28; refine HT.out.mono ?_; rintro e w2 ⟨rfl, hE2⟩)
  go_ret
  exact RetE.fin (HE.out.trans hE2) rfl
set_option maxRecDepth 20000 in
theorem ahead06 (i : Nat) (a : Int) (j : Nat) (b : Int) (w : World) :
    Calls Tryd.prog 49 #[.int .i64 i, .int .i64 a, .int .i64 j, .int .i64 b] w (RetE (.bool (ahd i a j b)) w) := by
  go_enter Tryd.func49, Tryd.ntmps49
  by_cases h0 : b < a
  · have HB := Lib.hid (show ahd i a j b = true from ahd_iff.2 (Or.inl h0))
    go_wp2
    go_ret
    exact RetE.fin (by repeat (first | exact Ext.refl _ | assumption | refine Ext.drewN ?_ _ | refine Ext.drew ?_ | refine Ext.alloc ?_ _)) (by rw [HB.out]; rfl)
  · by_cases h1 : a = b
    · subst h1
      by_cases h2 : i < j
      · have HB := Lib.hid (show ahd i a j a = true from ahd_iff.2 (Or.inr ⟨rfl, h2⟩))
        have h2' : (i : Int) < (j : Int) := by omega
        go_wp2
        go_ret
        exact RetE.fin (by repeat (first | exact Ext.refl _ | assumption | refine Ext.drewN ?_ _ | refine Ext.drew ?_ | refine Ext.alloc ?_ _)) (by rw [HB.out]; rfl)
      · have HB := Lib.hid (show ahd i a j a = false from Bool.eq_false_iff.2 fun h => by rw [ahd_iff] at h; omega)
        have h2' : ¬(i : Int) < (j : Int) := by omega
        go_wp2
        go_ret
        exact RetE.fin (by repeat (first | exact Ext.refl _ | assumption | refine Ext.drewN ?_ _ | refine Ext.drew ?_ | refine Ext.alloc ?_ _)) (by rw [HB.out]; rfl)
    · have HB := Lib.hid (show ahd i a j b = false from Bool.eq_false_iff.2 fun h => by rw [ahd_iff] at h; omega)
      have h1' : (a == b) = false := by simpa using h1
      clear h1
      go_wp2
      go_ret
      exact RetE.fin (by repeat (first | exact Ext.refl _ | assumption | refine Ext.drewN ?_ _ | refine Ext.drew ?_ | refine Ext.alloc ?_ _)) (by rw [HB.out]; rfl)
theorem head_get {l : List Int} (h : 0 < l.length) : l[0] = l.headD 0 := by
  cases l with
  | nil => cases h
  | cons a l => rfl
set_option maxRecDepth 20000 in
theorem low06 (T : Tab) (hT : TabOK T) (i : Nat) (hi : i < T.length) (q : Option Addr) (c : Nat) (w : World) (hv : ListsAt w q T) :
    Calls Tryd.prog 37 #[.slice q T.length c, .int .i64 i] w (RetE (.int .i64 (loT T i)) w) := by
  obtain ⟨b, o, p, d, rfl, h1, h2⟩ := hv.row hi
  have hl : 0 < (rowT T i).length := List.length_pos_iff.2 (hT.ne hi)
  obtain ⟨b2, o2, rfl, h3⟩ := h2.at 0 hl
  have e : (rowT T i)[0] = loT T i := head_get hl
  rw [e, Nat.add_zero] at h3
  obtain ⟨n, hn⟩ : ∃ n, n = (rowT T i).length := ⟨_, rfl⟩
  rw [← hn] at h1 hl
  have hi' : (i : Int) < (T.length : Int) := by omega
  have hl' : (0 : Int) < (n : Int) := by omega
  clear e hn h2
  go_enter Tryd.func37, Tryd.ntmps37
  go_wp2
  go_ret
  exact RetE.fin (by repeat (first | exact Ext.refl _ | assumption | refine Ext.drewN ?_ _ | refine Ext.drew ?_ | refine Ext.alloc ?_ _)) rfl
set_option maxRecDepth 20000 in
set_option maxHeartbeats 1600000 in
theorem high06 (T : Tab) (hT : TabOK T) (i : Nat) (hi : i < T.length) (hs : ∀ l ∈ T, l.length ≤ 2000) (q : Option Addr) (c : Nat) (w : World) (hv : ListsAt w q T) :
    Calls Tryd.prog 35 #[.slice q T.length c, .int .i64 i] w (RetE (.int .i64 (hiT T i)) w) := by
  obtain ⟨b, o, p, d, rfl, h1, h2⟩ := hv.row hi
  have hl : 0 < (rowT T i).length := List.length_pos_iff.2 (hT.ne hi)
  have hl2 : (rowT T i).length ≤ 2000 := by rw [rowT_get hi]; exact hs _ (List.getElem_mem hi)
  obtain ⟨b2, o2, rfl, h3⟩ := h2.at ((rowT T i).length - 1) (by omega)
  have e : (rowT T i)[(rowT T i).length - 1] = hiT T i := by
    unfold hiT
    rw [← List.getLast_eq_getElem (h := hT.ne hi), List.getLastD_eq_getLast?, List.getLast?_eq_some_getLast (hT.ne hi)]
    rfl
  rw [e] at h3
  obtain ⟨n, hn⟩ : ∃ n, n = (rowT T i).length := ⟨_, rfl⟩
  rw [← hn] at h1 hl hl2 h3
  obtain ⟨m, rfl⟩ : ∃ m, n = m + 1 := ⟨n - 1, by omega⟩
  have hi' : (i : Int) < (T.length : Int) := by omega
  have hm : (m : Int) < ((m : Int) + 1) := by omega
  have hw : IntKind.i64.wrap (((m + 1 : Nat) : Int) - 1) = (m : Int) := by rw [IntKind.wrap_i64]; omega
  have hw2 : IntKind.i64.wrap (m : Int) = (m : Int) := by rw [IntKind.wrap_i64]; omega
  rw [show m + 1 - 1 = m from rfl] at h3
  have k1 := ExtW.cell h1
  have k3 := ExtW.cell h3
  clear e hn h2 h1 h3
  go_enter Tryd.func35, Tryd.ntmps35
  go_upto_region 1 with (fail)
  obtain ⟨x0, hx0⟩ := ExtW.of (Ext.refl w)
  conv => arg 5; rw [hx0]
  clear hx0
  refine wp_region_extW (by kernel_rfl) (by kernel_rfl) ?_
  repeat (go_big_quiet_step (fail))
  refine wpQuiet_nil ?_
  rintro _ ⟨x2, rfl⟩
  go_wp2
  go_ret
  exact RetE.fin x2.h rfl
end Go.Proofs.YtaoamnhchidjfaaDoor
