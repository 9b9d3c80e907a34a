
/- The walk of ChartsOne. -/
import Derived.Test.YtaoamnhchidjfaaGreatDoorCF
import Derived.Deep.RegionHeld3
import Derived.Laws.MakeOwn
import Derived.Test.YtaoamnhchidjfaaGreatDoorE2f
import Derived.Test.YtaoamnhchidjfaaGreatDoorE2d
import Derived.Test.YtaoamnhchidjfaaGreatDoorE4c
namespace Go.Proofs.YtaoamnhchidjfaaGreatDoor
open Go.RowKit

theorem errC_two' {C : Ch} (h : ValidC C) : errC C true = 0 ∨ errC C true = 3 := by
  cases hn : someN C C.meters.length
  · exact Or.inl (errC_ok h hn)
  · exact Or.inr (errC_none h hn)
/-- which titles were seen among the first ones of an order -/
def seenL (n : Nat) (l : List Int) (i : Nat) : List Int := (List.range n).map fun j : Nat => if (j : Int) ∈ l.take i then 1 else 0
theorem seenL_len (n : Nat) (l : List Int) (i : Nat) : (seenL n l i).length = n := by unfold seenL; simp
theorem seenL_zero (n : Nat) (l : List Int) : seenL n l 0 = List.replicate n 0 := by
  unfold seenL
  refine List.ext_getElem (by simp) fun i h1 h2 => ?_
  simp
theorem seenL_get {n : Nat} {l : List Int} {i a : Nat} (ha : a < n) : (seenL n l i)[a]'(by rw [seenL_len]; exact ha) = if (a : Int) ∈ l.take i then 1 else 0 := by
  unfold seenL
  simp
theorem seenL_fresh {n : Nat} {l : List Int} (hn : l.Nodup) {i a : Nat} (hi : i < l.length) (ha : a < n) (e : l[i] = a) : (seenL n l i)[a]'(by rw [seenL_len]; exact ha) = 0 := by
  rw [seenL_get ha, if_neg]
  intro h
  rw [← e] at h
  obtain ⟨j, hj, he⟩ := List.getElem_of_mem h
  rw [List.getElem_take] at he
  rw [List.length_take] at hj
  exact List.pairwise_iff_getElem.1 (List.nodup_iff_pairwise_ne.1 hn) j i (by omega) hi (by omega) he
theorem seenL_set {n : Nat} {l : List Int} {i a : Nat} (hi : i < l.length) (e : l[i] = a) : (seenL n l i).set a 1 = seenL n l (i + 1) := by
  refine List.ext_getElem (by rw [List.length_set, seenL_len, seenL_len]) fun j h1 h2 => ?_
  rw [List.length_set, seenL_len] at h1
  rw [seenL_get (l := l) (i := i + 1) h1, List.take_succ_eq_append_getElem hi, e]
  by_cases c : a = j
  · subst c
    rw [List.getElem_set_self, if_pos (by simp)]
  · rw [List.getElem_set_ne c, seenL_get (l := l) (i := i) h1]
    by_cases d : (j : Int) ∈ l.take i
    · rw [if_pos d, if_pos (List.mem_append.2 (Or.inl d))]
    · rw [if_neg d, if_neg]
      intro h
      rcases List.mem_append.1 h with h | h
      · exact d h
      · have := List.mem_singleton.1 h
        omega
theorem ordI_nodup (n : Nat) (x : Nat → Int) : (ordI n x).Nodup := by
  rw [List.nodup_iff_pairwise_ne, List.pairwise_iff_getElem]
  intro i j hi hj hij e
  obtain ⟨a, h1, -, h2⟩ := ordI_get hi
  obtain ⟨b, h3, -, h4⟩ := ordI_get hj
  have : a = b := by omega
  subst this
  omega
/-- the first titles of an order have one rank each -/
def oneTo (T : Tab) (l : List Int) (i : Nat) : Bool := (l.take i).all fun v => decide ((rkLo T v.toNat : Int) = (rkHi T v.toNat : Int))
theorem oneTo_succ (T : Tab) (l : List Int) {i a : Nat} (hi : i < l.length) (e : l[i] = a) : oneTo T l (i + 1) = (oneTo T l i && decide ((rkLo T a : Int) = (rkHi T a : Int))) := by
  unfold oneTo
  rw [List.take_succ_eq_append_getElem hi, List.all_append, e]
  simp
theorem oneTo_all {T : Tab} (hT : TabOK T) : oneTo T (ordI T.length (hiT T)) T.length = decide ((allO T.length (rowT T)).length = 1) := by
  rw [Bool.eq_iff_iff, decide_eq_true_eq, one_iff hT]
  unfold oneTo
  rw [List.take_of_length_le (by rw [ordI_len]; exact Nat.le_refl _), List.all_eq_true]
  constructor
  · intro h i hi
    have hm : i ∈ (ordI T.length (hiT T)).map Int.toNat := (ordI_ord T.length (hiT T)).1.symm.subset (List.mem_range.2 hi)
    obtain ⟨v, hv, he⟩ := List.mem_map.1 hm
    have := h v hv
    rw [decide_eq_true_eq, he] at this
    omega
  · intro h v hv
    obtain ⟨k, hk, rfl⟩ := List.getElem_of_mem hv
    obtain ⟨a, h1, h2, -⟩ := ordI_get hk
    rw [h1, Int.toNat_natCast, decide_eq_true_eq, h a h2]
theorem infoSp : (Tryz.prog.info? 36).map (·.size) = some 2 := by kernel_rfl
/-- a span is stored into a block of its own, at a step of a region that draws its order -/
theorem step_store_span {ops : Array Oper} {E : Prop} {w W : World} {o : Oper} {a : Act} {K : Act → World → Prop} {Q : Exit → Act → World → Prop} (hgd : o.guard = none) (x y : Operand) (ho : o.op = .store 36 x y)
    (b : Nat) {lo hi u0 u1 : Int} (hx : a.eval x = .pointer (some ⟨b, 0, none⟩)) (hy : a.eval y = .agg #[.int .i64 lo, .int .i64 hi]) (hm : w.heap[b]? = some (.cells #[.int .i64 u0, .int .i64 u1] 36)) (hE : Ext W w) (hb : W.heap.size ≤ b)
    (h : ∀ w', w'.heap[b]? = some (.cells #[.int .i64 lo, .int .i64 hi] 36) → Ext W w' → K (a.put o.dst undef) w') :
    if Region.wanted o (yielded ops a.tmps) = true then Oper.wp Tryz.prog o a w K Q else E := by
  have hw : Region.wanted o (yielded ops a.tmps) = true := by simp [Region.wanted, hgd]
  rw [if_pos hw]
  refine wp_store_mid 36 x y ho b 0 _ hx hy (fun j hj => ?_) infoSp (by simp [Value.oneCell']) ?_
  · refine ⟨?_, cell_frozen hm _⟩
    rw [cell_of_heap hm]
    have hj2 : j = 0 ∨ j = 1 := by have : j < 2 := hj; omega
    rcases hj2 with rfl | rfl <;> rfl
  · exact h _ (heap_pair hm) (Ext.setCell (Ext.setCell hE (p := ⟨b, 0, none⟩) hb _) (p := ⟨b, 1, none⟩) hb _)
theorem make_i (n : Nat) (hn : n ≤ 1000) (w : World) : (Instr.makeSlice 23 (.int .i64 n) (.int .i64 n)).run Tryz.prog w = .ok (.slice (some ⟨w.heap.size, 0, none⟩) n n) (w.alloc (.cells (Array.replicate n (.int .i64 0)) 3)) := by
  obtain ⟨i, hi, hz, hs, hb⟩ := info_parts info_a
  have := run_make (P := Tryz.prog) w 23 3 i _ Tryz.underlying23 hi hz .i64 .i64 n n (by omega) (Int.le_refl _) (by rw [hb]; omega) (by omega)
  rw [this, hs]
  have e : madeCells (Value.int .i64 0).cells (n * 1) = Array.replicate n (.int .i64 0) := by
    apply Array.ext
    · simp [madeCells]
    · intro j h1 h2
      simp [madeCells, Value.cells, Nat.mod_one]
  simp only [Int.toNat_natCast, e]
theorem own_made_i (W : World) (B n : Nat) (hB : B ≤ W.heap.size) (hn : n ≤ 1000) : (W.alloc (.cells (Array.replicate n (.int .i64 0)) 3)).ownsRow B 3 1 (.slice (some ⟨W.heap.size, 0, none⟩) n n) n (intVs (List.replicate n 0)) := by
  refine ⟨by simp [intVs], Or.inr ⟨W.heap.size, n, _, rfl, hB, heap_new _ _, Nat.le_refl _, by simp only [maxLen]; omega, by simp, ?_⟩⟩
  rw [Array.toList_replicate, List.take_of_length_le (by simp)]
  simp [intVs]

set_option maxRecDepth 20000 in
set_option maxHeartbeats 16000000 in
theorem ChartsOne06 (v : Value) (C : Ch) (w : World) (hv : ChV w v C) (hT : TabW w) :
    Calls Tryz.prog 7 #[v] w (RetE (.bool true) w) := by
  have HV := Lib.hid hv
  have HT := Lib.hid hT
  obtain ⟨p, c, q, d, rfl, hp, hq⟩ := hv
  clear hp hq hT
  go_enter Tryz.func7, Tryz.ntmps7
  go_upto_region 1 with (fail)
  obtain ⟨s0, hs0⟩ : ∃ s0, s0 = w.heap.size := ⟨_, rfl⟩
  obtain ⟨W, hW⟩ : ∃ W, W = w.alloc (.cells #[.slice p C.meters.length c, .slice q C.extra.length d, .int .i64 C.frm, .int .i64 C.tto] 25) := ⟨_, rfl⟩
  have m0 : W.heap[s0]? = some (.cells #[.slice p C.meters.length c, .slice q C.extra.length d, .int .i64 C.frm, .int .i64 C.tto] 25) := by rw [hs0, hW]; exact heap_new _ _
  have hE : Ext w W := by rw [hW]; exact Ext.alloc (Ext.refl _) _
  rw [← hs0, ← hW]
  have a0 := ExtW.cell (v := .slice p C.meters.length c) (cell_of_heap m0 0)
  have a1 := ExtW.cell (v := .slice q C.extra.length d) (cell_of_heap m0 1)
  have a2 := ExtW.cell (v := .int .i64 C.frm) (cell_of_heap m0 2)
  have a3 := ExtW.cell (v := .int .i64 C.tto) (cell_of_heap m0 3)
  have HM0 := Lib.hid m0
  have HE := Lib.hid hE
  have HS0 := Lib.hid hs0
  have HVW := Lib.hid (fun y (h : Ext W y) => HV.out.ext (HE.out.trans h))
  have HTW := Lib.hid (HT.out.ext HE.out)
  have HWK := Lib.hid (fun x : ExtW W => ExtW.callX (x := x) (works06 x.w (HTW.out.ext x.h)))
  have HRD := Lib.hid (fun x : ExtW W => ExtW.callX (x := x) (ready06 C _ x.w (HVW.out _ x.h)))
  obtain ⟨y0, hy0⟩ := ExtW.of (Ext.refl W)
  clear hW m0 hE hs0
  conv => arg 5; rw [hy0]
  clear hy0
  obtain ⟨b, hb⟩ : ∃ b, readyC C = b := ⟨_, rfl⟩
  rw [hb] at HRD
  cases b
  case false =>
    clear hb
    go_wp2_with (first
    | (go_at_call 24; refine (HRD.out _).mono ?_; rintro e w2 ⟨rfl, xr, rfl, -⟩)
    | (go_at_call 12; refine (HWK.out _).mono ?_; rintro e w2 ⟨rfl, xw, rfl, -⟩))
    go_ret
    exact RetE.fin (HE.out.trans xw.h) rfl
  obtain ⟨hfar, hC⟩ := readyC_iff.1 hb
  have HSM := Lib.hid (farC_sm hfar)
  have HC := Lib.hid hC
  have hn6 := hC.nm
  have hzz := errC_two' hC
  clear hb hfar hC
  obtain ⟨m, hm⟩ : ∃ x, x = ordersA C := ⟨_, rfl⟩
  obtain ⟨z, hz⟩ : ∃ x, x = errC C true := ⟨_, rfl⟩
  obtain ⟨L, hL⟩ : ∃ x, x = orderA C := ⟨_, rfl⟩
  rw [← hz] at hzz
  have HO1 := Lib.hid (fun x : ExtW W => ExtW.callX (v := .tuple #[.int .i64 m, .int .i64 z]) (x := x) (by
    have h := Orders06 C _ x.w (HVW.out _ x.h) HSM.out (HTW.out.ext x.h)
    rw [← hm, ← hz] at h
    exact h))
  have HP1 := Lib.hid (fun x : ExtW W => ExtW.callL (l := L) (n := z) (x := x) (by
    have h := Order06 C _ x.w (HVW.out _ x.h) HSM.out (HTW.out.ext x.h)
    rw [← hL, ← hz] at h
    exact h))
  have HM := Lib.hid hm
  have HZ := Lib.hid hz
  have HL := Lib.hid hL
  have HKN := Lib.hid (fun y => isKnown06 z y)
  have hkk : (decide (z = 0) || decide (z = 3)) = true := by rcases hzz with h | h <;> subst h <;> rfl
  rw [hkk] at HKN
  have h2 : (z != z) = false := by simp
  clear hm hz hL hkk
  go_upto_region 5 with (first
    | (go_at_call 24; refine (HRD.out _).mono ?_; rintro e w2 ⟨rfl, xr, rfl, -⟩)
    | (go_at_call 34; refine (HO1.out _).mono ?_; rintro e w2 ⟨rfl, x1, rfl, -⟩)
    | (go_at_call 44; refine (HP1.out _).mono ?_; rintro e w2 ⟨p1, c1, rfl, x3, rfl, hE3, hi3, -⟩))
  have HI3 := Lib.hid hi3
  clear hE3 hi3 HO1 HP1 HRD
  go_upto_region 7 with (go_at_call 35; refine (HKN.out _).mono ?_; rintro e w4 ⟨rfl, hE4⟩)
  obtain ⟨x4, hx4⟩ := ExtW.of (x3.h.trans hE4)
  have HI4 := Lib.hid (HI3.out.ext hE4)
  rw [hx4] at HI4
  clear HI3
  conv => arg 5; rw [hx4]
  clear hx4 hE4 h2
  by_cases hz0 : z = 0
  case neg =>
    have h3 : z = 3 := by omega
    have hne : ¬errC C true = 0 := by rw [← HZ.out]; exact hz0
    have hm0 : m = 0 := by rw [HM.out]; exact okN_ne hne _
    have hl0 : L = [] := by rw [HL.out]; exact okL_ne hne _
    subst h3 hm0 hl0
    clear hz0 hne hzz
    go_wp2_with (go_at_call 12; refine (HWK.out _).mono ?_; rintro e _ ⟨rfl, xw, rfl, -⟩)
    go_ret
    exact RetE.fin (HE.out.trans xw.h) rfl
  subst hz0
  have hv0 := errC_0 HZ.out.symm
  have hG := tabC_ok hv0.1 hv0.2.2
  have htl := tabC_len C
  have hmA : m = ((allO C.meters.length (rowT (tabC C))).length : Nat) := by rw [HM.out]; exact okN_0 HZ.out.symm _
  have hLA : L = ordI (tabC C).length (hiT (tabC C)) := by rw [HL.out]; exact okL_0 HZ.out.symm _
  have hpo := allO_pos (n := (tabC C).length) hG.ok.row fun i hi => hG.ok.ne hi
  have hon := oneTo_all hG.ok
  rw [htl] at hpo hon
  have hrank : ∀ i (h : i < L.length), ∃ a : Nat, L[i] = a ∧ a < C.meters.length ∧ (rkLo (tabC C) a : Int) ≤ (i : Int) + 1 ∧ (i : Int) + 1 ≤ (rkHi (tabC C) a : Int) := fun i h => by
    subst hLA
    obtain ⟨a, h1, h2, h3⟩ := ordI_get h
    have hb := rk_bounds hG.ok h2 (tru_hi hG.ok)
    exact ⟨a, h1, by rw [← htl]; exact h2, by omega, by omega⟩
  have hnd : L.Nodup := by rw [hLA]; exact ordI_nodup _ _
  have hll : L.length = C.meters.length := by rw [hLA, ordI_len, htl]
  have hm1 : (m == 1) = oneTo (tabC C) L C.meters.length := by
    rw [hLA, htl, hon, hmA, Bool.eq_iff_iff, beq_iff_eq, decide_eq_true_eq]
    omega
  have hm2 : ¬m < 1 := by omega
  have hllI : ((L.length : Int) != (C.meters.length : Int)) = false := by simp; omega
  have HRA := Lib.hid hrank
  have HND := Lib.hid hnd
  have HLL : EqS L.length C.meters.length := ⟨hll⟩
  have HM1 := Lib.hid hm1
  have HVY := Lib.hid (fun a (ha : a < C.meters.length) y (h : Ext W y) => (by
    have h' := Rank06 C a _ y (HVW.out _ h) HSM.out (HTW.out.ext h)
    have he : errT C a = 0 := by unfold errT; rw [isTB_iff.2 ⟨by omega, by omega⟩]; exact HZ.out.symm
    unfold rankLoA rankHiA at h'
    rw [he, okN_0 rfl, okN_0 rfl, Int.toNat_natCast] at h'
    exact h' : Calls Tryz.prog 18 #[.agg #[.slice p C.meters.length c, .slice q C.extra.length d, .int .i64 C.frm, .int .i64 C.tto], .int .i64 (a : Int)] y (RetSp (rkLo (tabC C) a : Nat) (rkHi (tabC C) a : Nat) 0 y)))
  have HTI := Lib.hid (fun a (ha : a < C.meters.length) y (h : Ext W y) => (by
    have h' := rIsTitle06 C (a : Int) _ y (HVW.out _ h) (by omega)
    rw [isTB_iff.2 ⟨by omega, by omega⟩] at h'
    exact h' : Calls Tryz.prog 25 #[.agg #[.slice p C.meters.length c, .slice q C.extra.length d, .int .i64 C.frm, .int .i64 C.tto], .int .i64 (a : Int)] y (RetE (.bool true) y)))
  have hmk := fun y => make_i L.length (by omega) y
  have HMK := Lib.hid hmk
  obtain ⟨T, hTT⟩ : ∃ T, T = tabC C := ⟨_, rfl⟩
  rw [← hTT] at HRA HM1 HVY
  have hL6 : L.length ≤ 20 := by omega
  clear hv0 hG htl hmA hLA hpo hon hrank hnd hll hm1 hTT hzz
  go_upto_region 13 with (fail)
  obtain ⟨g, hg⟩ : ∃ g, g = x4.w.heap.size := ⟨_, rfl⟩
  obtain ⟨W5, hW5⟩ : ∃ W5, W5 = x4.w.alloc (.cells (Array.replicate L.length (.int .i64 0)) 3) := ⟨_, rfl⟩
  have hO5 : W5.ownsRow x4.w.heap.size 3 1 (.slice (some ⟨g, 0, none⟩) L.length L.length) L.length (intVs (seenL L.length L 0)) := by
    rw [seenL_zero, hW5, hg]
    exact own_made_i x4.w _ _ (Nat.le_refl _) (by omega)
  have hE5 : Ext x4.w W5 := by rw [hW5]; exact Ext.alloc (Ext.refl _) _
  have hgB : x4.w.heap.size ≤ g := by omega
  rw [← hg, ← hW5]
  have HO5 := Lib.hid hO5
  have HE5 := Lib.hid hE5
  have HA0 := Lib.hid (fun y (h : Ext x4.w y) => (⟨a0 ⟨y, x4.h.trans h⟩, a1 ⟨y, x4.h.trans h⟩, a2 ⟨y, x4.h.trans h⟩, a3 ⟨y, x4.h.trans h⟩⟩ :
    y.cell? ⟨s0, 0, none⟩ = some (.slice p C.meters.length c) ∧ y.cell? ⟨s0, 1, none⟩ = some (.slice q C.extra.length d) ∧ y.cell? ⟨s0, 2, none⟩ = some (.int .i64 C.frm) ∧ y.cell? ⟨s0, 3, none⟩ = some (.int .i64 C.tto)))
  obtain ⟨W4, hW4⟩ : ∃ W4, W4 = x4.w := ⟨_, rfl⟩
  have hEW4 : Ext W W4 := by rw [hW4]; exact x4.h
  rw [← hW4] at HO5 HE5 HA0 HI4 hgB
  have HEW4 := Lib.hid hEW4
  clear hg hW5 hO5 hE5 hmk hW4 hEW4 a0 a1 a2 a3 HMK
  go_wp2
  go_loopw [7, 9] (fun al a wr => ∃ i : Nat, i ≤ L.length ∧ a = .int .i64 i ∧ al = .bool (oneTo T L i) ∧ Ext W4 wr ∧ wr.ownsRow W4.heap.size 3 1 (.slice (some ⟨g, 0, none⟩) L.length L.length) L.length (intVs (seenL L.length L i))) (fun _ a _ => L.length - (intOf a).toNat)
  case atStart => exact ⟨0, Nat.zero_le _, rfl, rfl, HE5.out, HO5.out⟩
  case round =>
    obtain ⟨i, hi, rfl, rfl, hE, hO⟩ := hrel
    have HEI := Lib.hid hE
    have HOI := Lib.hid hO
    clear hE hO
    by_cases hlt : i < L.length
    · have hlt' : (i : Int) < (L.length : Int) := by omega
      obtain ⟨a, hLa, haC, hr1, hr2⟩ := HRA.out i hlt
      have haL : a < L.length := by have := HLL.out; omega
      obtain ⟨tb, tof, htb, hta⟩ := HI4.out.at i hlt
      subst htb
      rw [hLa] at hta
      have hfr := seenL_fresh HND.out hlt haL hLa
      have hst := seenL_set (n := L.length) hlt hLa
      have hos := oneTo_succ T L hlt hLa
      obtain ⟨sc, sz⟩ := ownsRow_cell HOI.out (i := a) (by rw [seenL_len]; exact haL)
      rw [hfr] at sc
      have haL' : (a : Int) < (L.length : Int) := by omega
      have ha0 : (0 : Int) ≤ (a : Int) := by omega
      obtain ⟨e0, e1, e2, e3⟩ := HA0.out wr HEI.out
      have k0 := ExtW.cell e0
      have k1 := ExtW.cell e1
      have k2 := ExtW.cell e2
      have k3 := ExtW.cell e3
      have k4 := ExtW.cell (HEI.out.cell hta)
      have k5 := ExtW.cell sc
      have HLA := Lib.hid hLa
      have HST := Lib.hid hst
      have HOS := Lib.hid hos
      have HTA := Lib.hid hta
      have HTX := Lib.hid (fun x : ExtW wr => ExtW.call (x := x) (HTI.out a haC x.w (HEW4.out.trans (HEI.out.trans x.h))))
      have HRX := Lib.hid (fun y (h : Ext W y) => HVY.out a haC y h)
      obtain ⟨lo, hlo⟩ : ∃ lo : Int, lo = (rkLo T a : Nat) := ⟨_, rfl⟩
      obtain ⟨hh, hhh⟩ : ∃ hh : Int, hh = (rkHi T a : Nat) := ⟨_, rfl⟩
      rw [← hlo] at hr1 HRX HOS
      rw [← hhh] at hr2 HRX HOS
      have g1 : ¬(i : Int) + 1 < lo := by omega
      have g2 : ¬hh < (i : Int) + 1 := by omega
      obtain ⟨y0, hy0⟩ := ExtW.of (Ext.refl wr)
      clear hLa hfr hst hos hta sc hlo hhh hr1 hr2 e0 e1 e2 e3 sz
      conv => arg 5; rw [hy0]
      clear hy0
      go_upto_region 16 with (fail)
      refine wp_region_extW (by kernel_rfl) (by kernel_rfl) ?_
      repeat (go_big_quiet_step ((go_at_call 25; exact HTX.out _)))
      refine wpQuiet_nil ?_
      rintro _ ⟨x2, rfl⟩
      have HO2 := Lib.hid (ownsRow_ext HOI.out x2.h)
      have HE2 := Lib.hid (HEI.out.trans x2.h)
      have hz2 := ownsRow_frozen (i := a) HO2.out
      clear k0 k1 k2 k3 HTX
      go_upto_region 19 with (fail)
      obtain ⟨W6, hW6⟩ : ∃ W6, W6 = x2.w.setCell ⟨g, a, none⟩ (.int .i64 1) := ⟨_, rfl⟩
      have hO6 : W6.ownsRow W4.heap.size 3 1 (.slice (some ⟨g, 0, none⟩) L.length L.length) L.length (intVs (seenL L.length L (i + 1))) := by rw [hW6, ← HST.out]; exact ownsRow_set HO2.out
      have hE6 : Ext W4 W6 := by rw [hW6]; exact Ext.setCell HE2.out (p := ⟨g, a, none⟩) hgB _
      rw [← hW6]
      have HO6 := Lib.hid hO6
      have HE6 := Lib.hid hE6
      obtain ⟨e0, e1, e2, e3⟩ := HA0.out W6 hE6
      have e4 := hE6.cell HTA.out
      clear hW6 hO6 hE6 k4 k5 hz2
      have HS0 := Lib.hid (fun (z : World) (hz : Ext W6 z) => (⟨hz.cell e0, hz.cell e1, hz.cell e2, hz.cell e3, hz.cell e4⟩ :
        z.cell? ⟨s0, 0, none⟩ = some (.slice p C.meters.length c) ∧ z.cell? ⟨s0, 1, none⟩ = some (.slice q C.extra.length d) ∧ z.cell? ⟨s0, 2, none⟩ = some (.int .i64 C.frm) ∧ z.cell? ⟨s0, 3, none⟩ = some (.int .i64 C.tto) ∧ z.cell? ⟨tb, tof + i, none⟩ = some (.int .i64 (a : Int))))
      clear e0 e1 e2 e3 e4
      have HEX := Lib.hid (HEW4.out.trans HE6.out)
      go_region_held3 (fun z => z.cell? ⟨s0, 0, none⟩ = some (.slice p C.meters.length c) ∧ z.cell? ⟨s0, 1, none⟩ = some (.slice q C.extra.length d) ∧ z.cell? ⟨s0, 2, none⟩ = some (.int .i64 C.frm) ∧ z.cell? ⟨s0, 3, none⟩ = some (.int .i64 C.tto) ∧ z.cell? ⟨tb, tof + i, none⟩ = some (.int .i64 (a : Int)))
        (first | (refine HS0.out _ ?_; repeat (first | with_reducible exact Ext.refl _ | with_reducible refine Ext.setCell ?_ (Nat.le_refl _) _ | with_reducible exact StpK.out (by assumption) | with_reducible refine Ext.alloc ?_ _ | with_reducible refine Ext.drew ?_ | with_reducible refine Ext.trans ?_ (StpK.out (by assumption)))))
        (first
          | (go_at_call 18; refine (HRX.out _ (HEX.out.trans (by repeat (first | with_reducible exact Ext.refl _ | with_reducible exact StpK.out (by assumption) | with_reducible refine Ext.alloc ?_ _ | with_reducible refine Ext.drew ?_ | with_reducible refine Ext.trans ?_ (StpK.out (by assumption)))))).mono ?_; rintro e w3 ⟨rfl, hE3⟩; have hS3 := StpK.mk hE3; have mz := heap_ext3 (w := (W6.alloc (.cells #[.int .i64 0, .int .i64 0] 36)).drew) (heap_new W6 _) hE3; have q0 := cell_of_heap mz 0; have q1 := cell_of_heap mz 1; have q2 := cell_frozen mz 0; have q3 := cell_frozen mz 1; have HMZ := Lib.hid mz; clear mz hE3)
          | (go_at_call 18; refine (HRX.out _ (HEX.out.trans (by repeat (first | with_reducible exact Ext.refl _ | with_reducible exact StpK.out (by assumption) | with_reducible refine Ext.alloc ?_ _ | with_reducible refine Ext.drew ?_ | with_reducible refine Ext.trans ?_ (StpK.out (by assumption)))))).mono ?_; rintro e w3 ⟨rfl, hE3⟩; have hS3 := StpK.mk hE3; clear hE3))
      · obtain ⟨w4, hw4⟩ : ∃ w4, w4 = w3.alloc (.cells #[.int .i64 lo, .int .i64 hh] 36) := ⟨_, rfl⟩
        have HM4 := Lib.hid (show w4.heap[w3.heap.size]? = some (.cells #[.int .i64 lo, .int .i64 hh] 36) from by rw [hw4]; exact heap_new _ _)
        have HE4 := Lib.hid (show Ext W6 w4 from by rw [hw4]; exact (((Ext.refl W6).drew).trans (StpK.out hS3)).alloc _)
        rw [← hw4]
        clear hw4 hS3
        have d0 := cell_of_heap HM4.out 0
        have d1 := cell_of_heap HM4.out 1
        have HO7 := Lib.hid (ownsRow_ext HO6.out HE4.out)
        have HE7 := Lib.hid (HE6.out.trans HE4.out)
        obtain ⟨bo, hbo⟩ : ∃ bo, bo = oneTo T L i := ⟨_, rfl⟩
        rw [← hbo] at HOS ⊢
        clear hbo
        cases bo with
        | false =>
          have HN := Lib.hid (show oneTo T L (i + 1) = false from by rw [HOS.out]; rfl)
          go_wp2
          go_roundw
          case rel => exact ⟨i + 1, by omega, by simp, by rw [HN.out], HE7.out, HO7.out⟩
          case measure => simp [intOf]; omega
        | true =>
          by_cases hlh : lo = hh
          · have hb : (lo == hh) = true := by simpa using hlh
            have HN := Lib.hid (show oneTo T L (i + 1) = true from by rw [HOS.out, decide_eq_true hlh]; rfl)
            clear hlh
            go_wp2
            go_roundw
            case rel => exact ⟨i + 1, by omega, by simp, by rw [HN.out], HE7.out, HO7.out⟩
            case measure => simp [intOf]; omega
          · have hb : (lo == hh) = false := by simpa using hlh
            have HN := Lib.hid (show oneTo T L (i + 1) = false from by rw [HOS.out, decide_eq_false hlh]; rfl)
            clear hlh
            go_wp2
            go_roundw
            case rel => exact ⟨i + 1, by omega, by simp, by rw [HN.out], HE7.out, HO7.out⟩
            case measure => simp [intOf]; omega
      · obtain ⟨w4, hw4⟩ : ∃ w4, w4 = (w3.setCell ⟨W6.heap.size, 0, none⟩ (.int .i64 lo)).setCell ⟨W6.heap.size, 1, none⟩ (.int .i64 hh) := ⟨_, rfl⟩
        have HM4 := Lib.hid (show w4.heap[W6.heap.size]? = some (.cells #[.int .i64 lo, .int .i64 hh] 36) from by rw [hw4]; exact heap_pair HMZ.out)
        have HE4 := Lib.hid (show Ext W6 w4 from by rw [hw4]; exact Ext.setCell (Ext.setCell ((((Ext.refl W6).alloc _).drew).trans (StpK.out hS3)) (p := ⟨W6.heap.size, 0, none⟩) (Nat.le_refl _) _) (p := ⟨W6.heap.size, 1, none⟩) (Nat.le_refl _) _)
        rw [← hw4]
        clear hw4 hS3 q0 q1 q2 q3
        have d0 := cell_of_heap HM4.out 0
        have d1 := cell_of_heap HM4.out 1
        have HO7 := Lib.hid (ownsRow_ext HO6.out HE4.out)
        have HE7 := Lib.hid (HE6.out.trans HE4.out)
        obtain ⟨bo, hbo⟩ : ∃ bo, bo = oneTo T L i := ⟨_, rfl⟩
        rw [← hbo] at HOS ⊢
        clear hbo
        cases bo with
        | false =>
          have HN := Lib.hid (show oneTo T L (i + 1) = false from by rw [HOS.out]; rfl)
          go_wp2
          go_roundw
          case rel => exact ⟨i + 1, by omega, by simp, by rw [HN.out], HE7.out, HO7.out⟩
          case measure => simp [intOf]; omega
        | true =>
          by_cases hlh : lo = hh
          · have hb : (lo == hh) = true := by simpa using hlh
            have HN := Lib.hid (show oneTo T L (i + 1) = true from by rw [HOS.out, decide_eq_true hlh]; rfl)
            clear hlh
            go_wp2
            go_roundw
            case rel => exact ⟨i + 1, by omega, by simp, by rw [HN.out], HE7.out, HO7.out⟩
            case measure => simp [intOf]; omega
          · have hb : (lo == hh) = false := by simpa using hlh
            have HN := Lib.hid (show oneTo T L (i + 1) = false from by rw [HOS.out, decide_eq_false hlh]; rfl)
            clear hlh
            go_wp2
            go_roundw
            case rel => exact ⟨i + 1, by omega, by simp, by rw [HN.out], HE7.out, HO7.out⟩
            case measure => simp [intOf]; omega
    · obtain rfl : i = L.length := by omega
      have hge : ¬(L.length : Int) < (L.length : Int) := by omega
      have hm1 := HM1.out
      rw [← HLL.out] at hm1
      obtain ⟨bb, hbb⟩ : ∃ bb, bb = oneTo T L L.length := ⟨_, rfl⟩
      rw [← hbb] at hm1 ⊢
      have HWK2 := Lib.hid (HWK.out ⟨wr, HEW4.out.trans HEI.out⟩)
      clear hbb
      cases bb with
      | true =>
        go_wp2_with (go_at_call 12; refine HWK2.out.mono ?_; rintro e _ ⟨rfl, xw, rfl, -⟩)
        go_ret
        exact RetE.fin (HE.out.trans xw.h) rfl
      | false =>
        go_wp2_with (go_at_call 12; refine HWK2.out.mono ?_; rintro e _ ⟨rfl, xw, rfl, -⟩)
        go_ret
        exact RetE.fin (HE.out.trans xw.h) rfl
end Go.Proofs.YtaoamnhchidjfaaGreatDoor
