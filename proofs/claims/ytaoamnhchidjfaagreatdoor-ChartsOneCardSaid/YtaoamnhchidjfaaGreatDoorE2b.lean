
/- Charts: the walks of the reference's rank, Numbers and Rank. -/
import Derived.Test.YtaoamnhchidjfaaGreatDoorE1a
import Derived.Test.YtaoamnhchidjfaaGreatDoorE2a
namespace Go.Proofs.YtaoamnhchidjfaaGreatDoor
open Go.RowKit

theorem rkRef_succ (T : Tab) (i : Nat) {k : Nat} (h : k < (prL T []).length) : rkRef T i (k + 1) = (min (rkRef T i k).1 (rnk T.length (vT (prL T [])[k]) i : Int), max (rkRef T i k).2 (rnk T.length (vT (prL T [])[k]) i : Int)) := by
  unfold rkRef
  rw [List.take_succ_eq_append_getElem h, List.foldl_append]
  rfl
theorem prL_row {T : Tab} {k : Nat} (h : k < (prL T []).length) : (prL T [])[k].length = T.length := (mem_prT.1 (List.getElem_mem h)).1
theorem prL_70 {T : Tab} (hR : TabR T) : (prL T []).length ≤ 70 := by rw [prL_ways]; exact hR.ways
theorem tabR_ok {C : Ch} (h : errC C true = 0) (hw : waysF C ≤ 70) : TabR (tabC C) := by
  obtain ⟨hv, -, hs⟩ := errC_0 h
  have hG := tabC_ok hv hs
  exact ⟨fun l hl => (hG.ok l hl).1, hG.ls, hG.len, by unfold waysF at hw; rwa [askT_0 h] at hw⟩
theorem rrankEnd06 {w W : World} {s : Nat} {a : Act} {y0 y1 x y : Value} {t : TypeId} {V : Value} (hV : V = .agg #[y0, y1]) (hE : Ext w W) (hm : W.heap[s]? = some (.cells #[x, y] t)) (hs : w.heap.size ≤ s) (ha : a.tmps[4]? = some (.pointer (some ⟨s, 0, none⟩))) (hd : a.defers = []) :
    bodyPost Tryz.prog Tryz.f65 (RetE V w) .ret a ((W.setCell ⟨s, 0, none⟩ y0).setCell ⟨s, 1, none⟩ y1) := by
  have h := heap_pair (y0 := y0) (y1 := y1) hm
  have c0 := cell_of_heap h 0
  have c1 := cell_of_heap h 1
  simp at c0 c1
  refine bodyPost_ret (v := .agg #[y0, y1]) ?_ hd ⟨by rw [hV], Ext.setCell (Ext.setCell hE (p := ⟨s, 0, none⟩) hs _) (p := ⟨s, 1, none⟩) hs _⟩
  cases a with
  | mk tm df =>
    simp only at ha
    simp [results, Tryz.results65, go_sem, ha, c0, c1]

set_option maxRecDepth 20000 in
set_option maxHeartbeats 3200000 in
theorem rrank06 (T : Tab) (hT : TabOK T) (hR : TabR T) (i : Nat) (hi : i < T.length) (q : Option Addr) (c : Nat) (w : World) (hv : ListsAt w q T) :
    Calls Tryz.prog 65 #[.slice q T.length c, .int .i64 i] w (RetE (rkV T i) w) := by
  have HTR := Lib.hid (fun y (h : Ext w y) => rtruthsAll06 T hR q c y (hv.ext h))
  have HRF := Lib.hid (show rkV T i = .agg #[.int .i64 (rkRef T i (prL T []).length).1, .int .i64 (rkRef T i (prL T []).length).2] from by rw [rk_ref hT hi]; rfl)
  have HRL := Lib.hid (fun k (h : k < (prL T []).length) => prL_row h)
  have HSU := Lib.hid (fun k (h : k < (prL T []).length) => rkRef_succ T i h)
  have hll := prL_70 hR
  have hn6 := hR.len
  obtain ⟨L, hL⟩ : ∃ L, L = prL T [] := ⟨_, rfl⟩
  rw [← hL] at HTR HRF HRL HSU hll
  clear hv hT hR hL
  go_enter Tryz.func65, Tryz.ntmps65
  go_upto_region 1 with (fail)
  obtain ⟨s0, hs0⟩ : ∃ s0, s0 = w.heap.size := ⟨_, rfl⟩
  obtain ⟨W1, hW1⟩ : ∃ W, W = w.alloc (.cells #[.int .i64 0, .int .i64 0] 36) := ⟨_, rfl⟩
  have m0 : W1.heap[s0]? = some (.cells #[.int .i64 0, .int .i64 0] 36) := by rw [hs0, hW1]; exact heap_new _ _
  have hE1 : Ext w W1 := by rw [hW1]; exact Ext.alloc (Ext.refl _) _
  rw [← hs0, ← hW1]
  have HSZ := Lib.hid (show w.heap.size ≤ s0 from by omega)
  have HM0 := Lib.hid m0
  have HE1 := Lib.hid hE1
  clear hW1 m0 hE1 hs0
  go_upto_region 2 with (go_at_call 70; refine (HTR.out _ HE1.out).mono ?_; rintro e W ⟨pq, pc, rfl, hE2, hLs⟩)
  have HE := Lib.hid (HE1.out.trans hE2)
  have HM0 := Lib.hid (heap_ext3 HM0.out hE2)
  have HLS := Lib.hid hLs
  have hsW : s0 < W.heap.size := (Array.getElem?_eq_some_iff.1 HM0.out).1
  clear hE2 hLs HTR HE1
  go_upto_region 3 with (fail)
  obtain ⟨s1, hs1⟩ : ∃ s1, s1 = W.heap.size := ⟨_, rfl⟩
  obtain ⟨W2, hW2⟩ : ∃ W2, W2 = W.alloc (.cells #[.int .i64 (T.length : Nat), .int .i64 1] 36) := ⟨_, rfl⟩
  have m1 : W2.heap[s1]? = some (.cells #[.int .i64 (T.length : Nat), .int .i64 1] 36) := by rw [hs1, hW2]; exact heap_new _ _
  have hE2 : Ext W W2 := by rw [hW2]; exact Ext.alloc (Ext.refl _) _
  rw [← hs1, ← hW2]
  have HM1 := Lib.hid m1
  have HE2 := Lib.hid hE2
  have hge : W.heap.size ≤ s1 := by omega
  clear hW2 m1 hE2 hs1
  go_wp2
  go_loopw [7] (fun a wr => ∃ k : Nat, k ≤ L.length ∧ a = .int .i64 k ∧ Ext W wr ∧ wr.heap[s1]? = some (.cells #[.int .i64 (rkRef T i k).1, .int .i64 (rkRef T i k).2] 36)) (fun a _ => L.length - (intOf a).toNat)
  case atStart => exact ⟨0, Nat.zero_le _, rfl, HE2.out, HM1.out⟩
  case round =>
    obtain ⟨k, hk, rfl, hEW, hB⟩ := hrel
    have HEW := Lib.hid hEW
    have HB := Lib.hid hB
    have d0 := cell_of_heap hB 0
    have d1 := cell_of_heap hB 1
    clear hEW hB
    by_cases hlt : k < L.length
    · have hlt' : (k : Int) < (L.length : Int) := by omega
      obtain ⟨b, o, rq, rc, rfl, hc0, hc1⟩ := HLS.out.at k hlt
      have hsu := HSU.out k hlt
      have hrl := HRL.out k hlt
      obtain ⟨t, ht⟩ : ∃ t, t = L[k] := ⟨_, rfl⟩
      rw [← ht] at hc0 hc1 hsu hrl
      have hri := RankIn06 t i (by omega) (by omega) rq rc wr (hc1.ext HEW.out)
      rw [hrl] at hri
      obtain ⟨n, hn⟩ : ∃ n, n = rnk T.length (vT t) i := ⟨_, rfl⟩
      rw [← hn] at hri hsu
      obtain ⟨x, hx⟩ : ∃ x, x = (rkRef T i k).1 := ⟨_, rfl⟩
      obtain ⟨y, hy⟩ : ∃ y, y = (rkRef T i k).2 := ⟨_, rfl⟩
      rw [← hx, ← hy] at hsu
      rw [← hx] at d0
      rw [← hy] at d1
      rw [← hx, ← hy] at HB
      obtain ⟨lo2, hlo2⟩ : ∃ lo2 : Int, min x (n : Int) = lo2 := ⟨_, rfl⟩
      obtain ⟨hi2, hhi2⟩ : ∃ hi2 : Int, max y (n : Int) = hi2 := ⟨_, rfl⟩
      have HI0 := (show (if (n : Int) < x then (n : Int) else x) = lo2 from by rw [← hlo2]; split <;> omega)
      have HI1 := (show (if y < (n : Int) then (n : Int) else y) = hi2 from by rw [← hhi2]; split <;> omega)
      rw [hlo2, hhi2] at hsu
      have HSUK := Lib.hid hsu
      have HRI := Lib.hid hri
      have r0 := HEW.out.cell hc0
      rw [hrl] at r0
      clear hsu hrl ht hri hn hx hy hlo2 hhi2 hc0 hc1
      go_upto_region 7 with (go_at_call 31; refine HRI.out.mono ?_; rintro e w3 ⟨rfl, hE3⟩)
      have HB3 := Lib.hid (heap_ext3 HB.out hE3)
      have HE3 := Lib.hid (HEW.out.trans hE3)
      have d0 := cell_of_heap HB3.out 0
      have d1 := cell_of_heap HB3.out 1
      have g0 := cell_frozen HB3.out 0
      have g1 := cell_frozen HB3.out 1
      clear hE3 r0
      go_wp2
      go_roundw
      case rel => exact ⟨k + 1, by omega, by simp, Ext.setCell (Ext.setCell HE3.out (p := ⟨s1, 0, none⟩) hge _) (p := ⟨s1, 1, none⟩) hge _, by rw [HSUK.out]; exact heap_pair HB3.out⟩
      case measure => simp [intOf]; omega
    · obtain rfl : k = L.length := by omega
      have hge' : ¬((L.length : Int) < (L.length : Int)) := by omega
      have HMZ := Lib.hid (heap_ext3 HM0.out HEW.out)
      have z0 := cell_frozen HMZ.out 0
      have z1 := cell_frozen HMZ.out 1
      have z2 := cell_of_heap HMZ.out 0
      have z3 := cell_of_heap HMZ.out 1
      obtain ⟨x, hx⟩ : ∃ x, x = (rkRef T i L.length).1 := ⟨_, rfl⟩
      obtain ⟨y, hy⟩ : ∃ y, y = (rkRef T i L.length).2 := ⟨_, rfl⟩
      rw [← hx] at d0
      rw [← hy] at d1
      rw [← hx, ← hy] at HRF
      clear hx hy
      go_wp2
      refine rrankEnd06 HRF.out (HE.out.trans HEW.out) HMZ.out HSZ.out ?_ ?_ <;> rfl

set_option maxRecDepth 20000 in
set_option maxHeartbeats 3200000 in
theorem rNumb06 (C : Ch) (n : Int) (v : Value) (w : World) (hv : ChV w v C) (hs : ChSm C) (hT : ∀ M ∈ C.meters, farB M = false) :
    Calls Tryz.prog 17 #[v, .int .i64 n] w (RetN (numsA C n) (errT C n) w) := by
  have HV := Lib.hid hv
  have HS := Lib.hid hs
  have HT := Lib.hid hT
  obtain ⟨p, c, q, d, rfl, hp, hq⟩ := hv
  clear hp hq hT hs
  go_enter Tryz.func17, Tryz.ntmps17
  go_upto_region 1 with (fail)
  obtain ⟨s0, hs0⟩ : ∃ s0, s0 = w.heap.size := ⟨_, rfl⟩
  obtain ⟨W, hW⟩ : ∃ W, W = w.alloc (.cells #[.slice p C.meters.length c, .slice q C.extra.length d, .int .i64 C.frm, .int .i64 C.tto] 25) := ⟨_, rfl⟩
  have m0 : W.heap[s0]? = some (.cells #[.slice p C.meters.length c, .slice q C.extra.length d, .int .i64 C.frm, .int .i64 C.tto] 25) := by rw [hs0, hW]; exact heap_new _ _
  have hE : Ext w W := by rw [hW]; exact Ext.alloc (Ext.refl _) _
  rw [← hs0, ← hW]
  have HKC := Lib.hid (fun y (h : Ext W y) => (⟨h.cell (cell_of_heap m0 0), h.cell (cell_of_heap m0 1), h.cell (cell_of_heap m0 2), h.cell (cell_of_heap m0 3)⟩ :
    y.cell? ⟨s0, 0, none⟩ = some (.slice p C.meters.length c) ∧ y.cell? ⟨s0, 1, none⟩ = some (.slice q C.extra.length d) ∧ y.cell? ⟨s0, 2, none⟩ = some (.int .i64 C.frm) ∧ y.cell? ⟨s0, 3, none⟩ = some (.int .i64 C.tto)))
  have HE := Lib.hid hE
  have HVW := Lib.hid (fun y (h : Ext W y) => HV.out.ext (HE.out.trans h))
  obtain ⟨b, hb⟩ : ∃ b, b = isTB C n := ⟨_, rfl⟩
  have HIS := Lib.hid (fun y (h : Ext W y) => (show Calls Tryz.prog 25 #[.agg #[.slice p C.meters.length c, .slice q C.extra.length d, .int .i64 C.frm, .int .i64 C.tto], .int .i64 n] y (RetE (.bool b) y) from by rw [hb]; exact rIsTitle06 C n _ y (HVW.out y h) (by have := HS.out.nm; omega)))
  have HB := Lib.hid hb
  clear hb
  clear hW m0 hE hs0
  obtain ⟨T, hTT⟩ : ∃ T, T = askT C b := ⟨_, rfl⟩
  obtain ⟨z, hz⟩ : ∃ z, z = errC C b := ⟨_, rfl⟩
  have HAK := Lib.hid (fun y (h : Ext W y) => (show Calls Tryz.prog 63 #[.agg #[.slice p C.meters.length c, .slice q C.extra.length d, .int .i64 C.frm, .int .i64 C.tto], .bool b] y (RetTb T z y) from by rw [hTT, hz]; exact rNumbers06 C b _ y (HV.out.ext (HE.out.trans h)) HS.out HT.out))
  have HTZ := Lib.hid (⟨hTT, hz⟩ : T = askT C b ∧ z = errC C b)
  clear hTT hz
  refine wp_region_facts 9 [[], [], [], [1, 2], [0, 3], [4], [5], [5], [6]] [8, 7] Ext (FL [Is (.agg #[.slice p C.meters.length c, .slice q C.extra.length d, .int .i64 C.frm, .int .i64 C.tto]), Is (.agg #[.slice p C.meters.length c, .slice q C.extra.length d, .int .i64 C.frm, .int .i64 C.tto]), Is (.int .i64 n), Is (.bool b), TabF T z W.heap.size, TabF T z W.heap.size, RowF T W.heap.size, Is (.int .i64 z), RowF T W.heap.size]) (by kernel_rfl) (by kernel_rfl) Ext.refl (fun _ _ _ => Ext.trans) (fun _ _ => Ext.size) (FL.mono ⟨Is.mono, Is.mono, Is.mono, Is.mono, TabF.mono, TabF.mono, RowF.mono, Is.mono, RowF.mono, trivial⟩) ⟨?_, ?_, ?_, ?_, ?_, ?_, ?_, ?_, ?_, trivial⟩ ?_
  · refine opF_step ?_
    intro ys l0 h0 w' hr hf K hK
    clear hf
    obtain ⟨j0, j1, j2, j3⟩ := HKC.out w' ((Ext.refl W).drew.trans hr)
    simp only [fill, Act.put, dstO, List.take_succ_cons, List.take_zero, List.setIfInBounds_toArray, List.set_cons_zero, List.set_cons_succ, List.getElem?_cons_zero, Nat.zero_add, Nat.reduceAdd] at hK ⊢
    refine OpB.mk' ?_
    go_simp
    exact hK.out _ _ rfl (Ext.refl _)
  · refine opF_step ?_
    intro ys l0 h0 w' hr hf K hK
    clear hf
    obtain ⟨j0, j1, j2, j3⟩ := HKC.out w' ((Ext.refl W).drew.trans hr)
    simp only [fill, Act.put, dstO, List.take_succ_cons, List.take_zero, List.setIfInBounds_toArray, List.set_cons_zero, List.set_cons_succ, List.getElem?_cons_zero, List.getElem?_cons_succ, Nat.zero_add, Nat.reduceAdd] at hK ⊢
    refine OpB.mk' ?_
    go_simp
    exact hK.out _ _ rfl (Ext.refl _)
  · refine opF_step ?_
    intro ys l0 h0 w' hr hf K hK
    clear hf
    simp only [fill, Act.put, dstO, List.take_succ_cons, List.take_zero, List.setIfInBounds_toArray, List.set_cons_zero, List.set_cons_succ, List.getElem?_cons_zero, List.getElem?_cons_succ, Nat.zero_add, Nat.reduceAdd] at hK ⊢
    refine OpB.mk' ?_
    go_simp
    exact hK.out _ _ rfl (Ext.refl _)
  · refine opF_step ?_
    intro ys l0 h0 w' hr hf K hK
    obtain ⟨f0, f1, -⟩ := hf
    have e0 : ys 1 = _ := f0
    have e1 : ys 2 = _ := f1
    simp only [fill, Act.put, dstO, List.take_succ_cons, List.take_zero, List.setIfInBounds_toArray, List.set_cons_zero, List.set_cons_succ, List.getElem?_cons_zero, List.getElem?_cons_succ, Nat.zero_add, Nat.reduceAdd] at hK ⊢
    simp only [e0, e1] at hK ⊢
    clear e0 e1 f0 f1
    refine OpB.mk' ?_
    go_simp
    refine (HIS.out w' ((Ext.refl W).drew.trans hr)).mono ?_
    rintro e w2 ⟨rfl, hE2⟩
    exact hK.out _ _ rfl hE2
  · refine opF_step ?_
    intro ys l0 h0 w' hr hf K hK
    obtain ⟨f0, f1, -⟩ := hf
    have e0 : ys 0 = _ := f0
    have e1 : ys 3 = _ := f1
    simp only [fill, Act.put, dstO, List.take_succ_cons, List.take_zero, List.setIfInBounds_toArray, List.set_cons_zero, List.set_cons_succ, List.getElem?_cons_zero, List.getElem?_cons_succ, Nat.zero_add, Nat.reduceAdd] at hK ⊢
    simp only [e0, e1] at hK ⊢
    clear e0 e1 f0 f1
    refine OpB.mk' ?_
    go_simp
    refine (HAK.out w' ((Ext.refl W).drew.trans hr)).mono ?_
    rintro e w2 ⟨u, vs, rfl, hR, hE2, hcp⟩
    exact hK.out _ _ ⟨u, vs, rfl, hR.base (Ext.size ((Ext.refl W).drew.trans hr)), hcp⟩ hE2
  · refine opF_step ?_
    intro ys l0 h0 w' hr hf K hK
    obtain ⟨f0, -⟩ := hf
    obtain ⟨u, vs, e0, hR, hcp⟩ := f0
    simp only [fill, Act.put, dstO, List.take_succ_cons, List.take_zero, List.setIfInBounds_toArray, List.set_cons_zero, List.set_cons_succ, List.getElem?_cons_zero, List.getElem?_cons_succ, Nat.zero_add, Nat.reduceAdd] at hK ⊢
    simp only [e0] at hK ⊢
    clear e0
    refine OpB.mk' ?_
    go_simp
    exact hK.out _ _ ⟨u, vs, rfl, hR, hcp⟩ (Ext.refl _)
  · refine opF_step ?_
    intro ys l0 h0 w' hr hf K hK
    obtain ⟨f0, -⟩ := hf
    obtain ⟨u, vs, e0, hR, hcp⟩ := f0
    simp only [fill, Act.put, dstO, List.take_succ_cons, List.take_zero, List.setIfInBounds_toArray, List.set_cons_zero, List.set_cons_succ, List.getElem?_cons_zero, List.getElem?_cons_succ, Nat.zero_add, Nat.reduceAdd] at hK ⊢
    simp only [e0] at hK ⊢
    clear e0
    refine OpB.mk' ?_
    go_simp
    exact hK.out _ _ ⟨vs, hR, hcp⟩ (Ext.refl _)
  · refine opF_step ?_
    intro ys l0 h0 w' hr hf K hK
    obtain ⟨f0, -⟩ := hf
    obtain ⟨u, vs, e0, hR, hcp⟩ := f0
    simp only [fill, Act.put, dstO, List.take_succ_cons, List.take_zero, List.setIfInBounds_toArray, List.set_cons_zero, List.set_cons_succ, List.getElem?_cons_zero, List.getElem?_cons_succ, Nat.zero_add, Nat.reduceAdd] at hK ⊢
    simp only [e0] at hK ⊢
    clear e0
    refine OpB.mk' ?_
    go_simp
    exact hK.out _ _ rfl (Ext.refl _)
  · refine opF_step ?_
    intro ys l0 h0 w' hr hf K hK
    obtain ⟨f0, -⟩ := hf
    simp only [fill, Act.put, dstO, List.take_succ_cons, List.take_zero, List.setIfInBounds_toArray, List.set_cons_zero, List.set_cons_succ, List.getElem?_cons_zero, List.getElem?_cons_succ, Nat.zero_add, Nat.reduceAdd] at hK ⊢
    refine OpB.mk' ?_
    go_simp
    exact hK.out _ _ f0 (Ext.refl _)
  intro ys l0 h0 w2 hr hf hsp
  obtain ⟨f8, f7, -⟩ := hf
  obtain ⟨vs, hR, hcp⟩ := f8
  have e7 : ys 7 = _ := f7
  simp only [fill, Act.put, List.take_succ_cons, List.take_zero, List.setIfInBounds_toArray, List.set_cons_zero, List.set_cons_succ, Nat.zero_add, Nat.reduceAdd, List.drop_succ_cons, List.drop_zero]
  rw [e7]
  clear e7 f7
  generalize ys 8 = u at hR ⊢
  clear hsp
  have hEW : Ext W w2 := (Ext.refl W).drew.trans hr
  have HR := Lib.hid hR
  have HCP := Lib.hid hcp
  have HEW := Lib.hid hEW
  obtain ⟨qt, ct, rfl, hLT⟩ := hR.lists
  have HLT := Lib.hid hLT
  clear hr hEW hR hcp hLT HAK
  by_cases hz0 : z = 0
  case neg =>
    have hg : (z == 0) = false := by simpa using hz0
    have HNA := Lib.hid (show numsA C n = [] from by unfold numsA; rw [← HB.out, askT_ne (by rw [← HTZ.out.2]; exact hz0)]; exact rowT_nil _)
    have HZ := Lib.hid (show errT C n = z from by unfold errT; rw [← HB.out, HTZ.out.2])
    clear hz0
    go_wp2
    go_ret2
    exact ⟨none, 0, by rw [HNA.out, HZ.out]; rfl, by rw [HNA.out]; exact IntsAt.nil _ _, HE.out.trans HEW.out⟩
  subst hz0
  obtain ⟨hC, hbt, hso⟩ := errC_0 HTZ.out.2.symm
  have hTC : T = tabC C := by rw [HTZ.out.1, askT_0 HTZ.out.2.symm]
  have htl : T.length = C.meters.length := by rw [hTC, tabC_len]
  obtain ⟨h0, h1⟩ := isTB_iff.1 (HB.out.symm.trans hbt)
  obtain ⟨i, rfl⟩ : ∃ i : Nat, n = i := ⟨n.toNat, by omega⟩
  have hi : i < T.length := by omega
  have HNA := Lib.hid (show numsA C i = rowT T i from by unfold numsA; rw [← HB.out, ← HTZ.out.1, Int.toNat_natCast])
  have HZ := Lib.hid (show errT C i = 0 from by unfold errT; rw [← HB.out, ← HTZ.out.2])
  obtain ⟨bb, oo, qq, cc, rfl, c1, c2⟩ := HLT.out.row hi
  have hlt : (i : Int) < (T.length : Int) := by omega
  have HC2 := Lib.hid c2
  obtain ⟨ln, hln⟩ : ∃ ln, ln = (rowT T i).length := ⟨_, rfl⟩
  rw [← hln] at c1
  have HLN := Lib.hid hln
  clear hC hbt hso hTC htl h0 h1 c2 hln
  go_wp2
  go_ret2
  exact ⟨qq, cc, by rw [HNA.out, HZ.out, ← HLN.out]; rfl, by rw [HNA.out]; exact HC2.out, HE.out.trans HEW.out⟩

theorem rrankEndA06 {w W : World} {s : Nat} {a : Act} {lo hi z lo' hi' z' : Int} {x y : Value} {t : TypeId} (hk : lo' = lo ∧ hi' = hi ∧ z' = z) (hE : Ext w W)
    (hm : W.heap[s]? = some (.cells #[x, y] t)) (hs : w.heap.size ≤ s) (ha : a.tmps[4]? = some (.pointer (some ⟨s, 0, none⟩))) (hb : a.tmps[5]? = some (.int .i64 z)) (hd : a.defers = []) :
    bodyPost Tryz.prog Tryz.f19 (RetSp lo' hi' z' w) .ret a ((W.setCell ⟨s, 0, none⟩ (.int .i64 lo)).setCell ⟨s, 1, none⟩ (.int .i64 hi)) := by
  have h := heap_pair (y0 := .int .i64 lo) (y1 := .int .i64 hi) hm
  have c0 := cell_of_heap h 0
  have c1 := cell_of_heap h 1
  simp at c0 c1
  refine bodyPost_ret (v := .tuple #[.agg #[.int .i64 lo, .int .i64 hi], .int .i64 z]) ?_ hd ⟨by rw [hk.1, hk.2.1, hk.2.2], Ext.setCell (Ext.setCell hE (p := ⟨s, 0, none⟩) hs _) (p := ⟨s, 1, none⟩) hs _⟩
  cases a with
  | mk tm df =>
    simp only at ha hb
    simp [results, Tryz.results19, go_sem, ha, hb, c0, c1]

set_option maxRecDepth 20000 in
set_option maxHeartbeats 3200000 in
theorem rRank06 (C : Ch) (n : Int) (v : Value) (w : World) (hv : ChV w v C) (hs : ChSm C) (hT : ∀ M ∈ C.meters, farB M = false) (hW : waysF C ≤ 70) :
    Calls Tryz.prog 19 #[v, .int .i64 n] w (RetSp (rankLoA C n) (rankHiA C n) (errT C n) w) := by
  have HV := Lib.hid hv
  have HS := Lib.hid hs
  have HT := Lib.hid hT
  obtain ⟨p, c, q, d, rfl, hp, hq⟩ := hv
  clear hp hq hT hs
  go_enter Tryz.func19, Tryz.ntmps19
  go_upto_region 1 with (fail)
  obtain ⟨s0, hs0⟩ : ∃ s0, s0 = w.heap.size := ⟨_, rfl⟩
  obtain ⟨W, hW⟩ : ∃ W, W = (w.alloc (.cells #[.slice p C.meters.length c, .slice q C.extra.length d, .int .i64 C.frm, .int .i64 C.tto] 25)).alloc (.cells #[.int .i64 0, .int .i64 0] 36) := ⟨_, rfl⟩
  have m0 : W.heap[s0]? = some (.cells #[.slice p C.meters.length c, .slice q C.extra.length d, .int .i64 C.frm, .int .i64 C.tto] 25) := by rw [hs0, hW, Below.heap_alloc _ _ _ (by rw [size_alloc]; omega)]; exact heap_new _ _
  have m1 : W.heap[s0 + 1]? = some (.cells #[.int .i64 0, .int .i64 0] 36) := by rw [hs0, hW]; exact heap_new2 _ _ _
  have HM1 := Lib.hid m1
  have HSZ := Lib.hid (show w.heap.size ≤ s0 + 1 from by omega)
  have hE : Ext w W := by rw [hW]; exact Ext.alloc (Ext.alloc (Ext.refl _) _) _
  rw [← hs0, ← hW]
  have HKC := Lib.hid (fun y (h : Ext W y) => (⟨h.cell (cell_of_heap m0 0), h.cell (cell_of_heap m0 1), h.cell (cell_of_heap m0 2), h.cell (cell_of_heap m0 3)⟩ :
    y.cell? ⟨s0, 0, none⟩ = some (.slice p C.meters.length c) ∧ y.cell? ⟨s0, 1, none⟩ = some (.slice q C.extra.length d) ∧ y.cell? ⟨s0, 2, none⟩ = some (.int .i64 C.frm) ∧ y.cell? ⟨s0, 3, none⟩ = some (.int .i64 C.tto)))
  have HE := Lib.hid hE
  have HVW := Lib.hid (fun y (h : Ext W y) => HV.out.ext (HE.out.trans h))
  obtain ⟨b, hb⟩ : ∃ b, b = isTB C n := ⟨_, rfl⟩
  have HIS := Lib.hid (fun y (h : Ext W y) => (show Calls Tryz.prog 25 #[.agg #[.slice p C.meters.length c, .slice q C.extra.length d, .int .i64 C.frm, .int .i64 C.tto], .int .i64 n] y (RetE (.bool b) y) from by rw [hb]; exact rIsTitle06 C n _ y (HVW.out y h) (by have := HS.out.nm; omega)))
  have HB := Lib.hid hb
  clear hb
  clear hW m0 m1 hE hs0
  obtain ⟨T, hTT⟩ : ∃ T, T = askT C b := ⟨_, rfl⟩
  obtain ⟨z, hz⟩ : ∃ z, z = errC C b := ⟨_, rfl⟩
  have HAK := Lib.hid (fun y (h : Ext W y) => (show Calls Tryz.prog 63 #[.agg #[.slice p C.meters.length c, .slice q C.extra.length d, .int .i64 C.frm, .int .i64 C.tto], .bool b] y (RetTb T z y) from by rw [hTT, hz]; exact rNumbers06 C b _ y (HV.out.ext (HE.out.trans h)) HS.out HT.out))
  have HTZ := Lib.hid (⟨hTT, hz⟩ : T = askT C b ∧ z = errC C b)
  clear hTT hz
  refine wp_region_facts 9 [[], [], [], [1, 2], [0, 3], [4], [5], [5], [6]] [8, 7] Ext (FL [Is (.agg #[.slice p C.meters.length c, .slice q C.extra.length d, .int .i64 C.frm, .int .i64 C.tto]), Is (.agg #[.slice p C.meters.length c, .slice q C.extra.length d, .int .i64 C.frm, .int .i64 C.tto]), Is (.int .i64 n), Is (.bool b), TabF T z W.heap.size, TabF T z W.heap.size, RowF T W.heap.size, Is (.int .i64 z), RowF T W.heap.size]) (by kernel_rfl) (by kernel_rfl) Ext.refl (fun _ _ _ => Ext.trans) (fun _ _ => Ext.size) (FL.mono ⟨Is.mono, Is.mono, Is.mono, Is.mono, TabF.mono, TabF.mono, RowF.mono, Is.mono, RowF.mono, trivial⟩) ⟨?_, ?_, ?_, ?_, ?_, ?_, ?_, ?_, ?_, trivial⟩ ?_
  · refine opF_step ?_
    intro ys l0 h0 w' hr hf K hK
    clear hf
    obtain ⟨j0, j1, j2, j3⟩ := HKC.out w' ((Ext.refl W).drew.trans hr)
    simp only [fill, Act.put, dstO, List.take_succ_cons, List.take_zero, List.setIfInBounds_toArray, List.set_cons_zero, List.set_cons_succ, List.getElem?_cons_zero, Nat.zero_add, Nat.reduceAdd] at hK ⊢
    refine OpB.mk' ?_
    go_simp
    exact hK.out _ _ rfl (Ext.refl _)
  · refine opF_step ?_
    intro ys l0 h0 w' hr hf K hK
    clear hf
    obtain ⟨j0, j1, j2, j3⟩ := HKC.out w' ((Ext.refl W).drew.trans hr)
    simp only [fill, Act.put, dstO, List.take_succ_cons, List.take_zero, List.setIfInBounds_toArray, List.set_cons_zero, List.set_cons_succ, List.getElem?_cons_zero, List.getElem?_cons_succ, Nat.zero_add, Nat.reduceAdd] at hK ⊢
    refine OpB.mk' ?_
    go_simp
    exact hK.out _ _ rfl (Ext.refl _)
  · refine opF_step ?_
    intro ys l0 h0 w' hr hf K hK
    clear hf
    simp only [fill, Act.put, dstO, List.take_succ_cons, List.take_zero, List.setIfInBounds_toArray, List.set_cons_zero, List.set_cons_succ, List.getElem?_cons_zero, List.getElem?_cons_succ, Nat.zero_add, Nat.reduceAdd] at hK ⊢
    refine OpB.mk' ?_
    go_simp
    exact hK.out _ _ rfl (Ext.refl _)
  · refine opF_step ?_
    intro ys l0 h0 w' hr hf K hK
    obtain ⟨f0, f1, -⟩ := hf
    have e0 : ys 1 = _ := f0
    have e1 : ys 2 = _ := f1
    simp only [fill, Act.put, dstO, List.take_succ_cons, List.take_zero, List.setIfInBounds_toArray, List.set_cons_zero, List.set_cons_succ, List.getElem?_cons_zero, List.getElem?_cons_succ, Nat.zero_add, Nat.reduceAdd] at hK ⊢
    simp only [e0, e1] at hK ⊢
    clear e0 e1 f0 f1
    refine OpB.mk' ?_
    go_simp
    refine (HIS.out w' ((Ext.refl W).drew.trans hr)).mono ?_
    rintro e w2 ⟨rfl, hE2⟩
    exact hK.out _ _ rfl hE2
  · refine opF_step ?_
    intro ys l0 h0 w' hr hf K hK
    obtain ⟨f0, f1, -⟩ := hf
    have e0 : ys 0 = _ := f0
    have e1 : ys 3 = _ := f1
    simp only [fill, Act.put, dstO, List.take_succ_cons, List.take_zero, List.setIfInBounds_toArray, List.set_cons_zero, List.set_cons_succ, List.getElem?_cons_zero, List.getElem?_cons_succ, Nat.zero_add, Nat.reduceAdd] at hK ⊢
    simp only [e0, e1] at hK ⊢
    clear e0 e1 f0 f1
    refine OpB.mk' ?_
    go_simp
    refine (HAK.out w' ((Ext.refl W).drew.trans hr)).mono ?_
    rintro e w2 ⟨u, vs, rfl, hR, hE2, hcp⟩
    exact hK.out _ _ ⟨u, vs, rfl, hR.base (Ext.size ((Ext.refl W).drew.trans hr)), hcp⟩ hE2
  · refine opF_step ?_
    intro ys l0 h0 w' hr hf K hK
    obtain ⟨f0, -⟩ := hf
    obtain ⟨u, vs, e0, hR, hcp⟩ := f0
    simp only [fill, Act.put, dstO, List.take_succ_cons, List.take_zero, List.setIfInBounds_toArray, List.set_cons_zero, List.set_cons_succ, List.getElem?_cons_zero, List.getElem?_cons_succ, Nat.zero_add, Nat.reduceAdd] at hK ⊢
    simp only [e0] at hK ⊢
    clear e0
    refine OpB.mk' ?_
    go_simp
    exact hK.out _ _ ⟨u, vs, rfl, hR, hcp⟩ (Ext.refl _)
  · refine opF_step ?_
    intro ys l0 h0 w' hr hf K hK
    obtain ⟨f0, -⟩ := hf
    obtain ⟨u, vs, e0, hR, hcp⟩ := f0
    simp only [fill, Act.put, dstO, List.take_succ_cons, List.take_zero, List.setIfInBounds_toArray, List.set_cons_zero, List.set_cons_succ, List.getElem?_cons_zero, List.getElem?_cons_succ, Nat.zero_add, Nat.reduceAdd] at hK ⊢
    simp only [e0] at hK ⊢
    clear e0
    refine OpB.mk' ?_
    go_simp
    exact hK.out _ _ ⟨vs, hR, hcp⟩ (Ext.refl _)
  · refine opF_step ?_
    intro ys l0 h0 w' hr hf K hK
    obtain ⟨f0, -⟩ := hf
    obtain ⟨u, vs, e0, hR, hcp⟩ := f0
    simp only [fill, Act.put, dstO, List.take_succ_cons, List.take_zero, List.setIfInBounds_toArray, List.set_cons_zero, List.set_cons_succ, List.getElem?_cons_zero, List.getElem?_cons_succ, Nat.zero_add, Nat.reduceAdd] at hK ⊢
    simp only [e0] at hK ⊢
    clear e0
    refine OpB.mk' ?_
    go_simp
    exact hK.out _ _ rfl (Ext.refl _)
  · refine opF_step ?_
    intro ys l0 h0 w' hr hf K hK
    obtain ⟨f0, -⟩ := hf
    simp only [fill, Act.put, dstO, List.take_succ_cons, List.take_zero, List.setIfInBounds_toArray, List.set_cons_zero, List.set_cons_succ, List.getElem?_cons_zero, List.getElem?_cons_succ, Nat.zero_add, Nat.reduceAdd] at hK ⊢
    refine OpB.mk' ?_
    go_simp
    exact hK.out _ _ f0 (Ext.refl _)
  intro ys l0 h0 w2 hr hf hsp
  obtain ⟨f8, f7, -⟩ := hf
  obtain ⟨vs, hR, hcp⟩ := f8
  have e7 : ys 7 = _ := f7
  simp only [fill, Act.put, List.take_succ_cons, List.take_zero, List.setIfInBounds_toArray, List.set_cons_zero, List.set_cons_succ, Nat.zero_add, Nat.reduceAdd, List.drop_succ_cons, List.drop_zero]
  rw [e7]
  clear e7 f7
  generalize ys 8 = u at hR ⊢
  clear hsp
  have hEW : Ext W w2 := (Ext.refl W).drew.trans hr
  have HR := Lib.hid hR
  have HCP := Lib.hid hcp
  have HEW := Lib.hid hEW
  obtain ⟨qt, ct, rfl, hLT⟩ := hR.lists
  have HLT := Lib.hid hLT
  clear hr hEW hR hcp hLT HAK
  by_cases hz0 : z = 0
  case neg =>
    have hg : (z == 0) = false := by simpa using hz0
    have HZ := Lib.hid (show errT C n = z from by unfold errT; rw [← HB.out, HTZ.out.2])
    have HNA := Lib.hid (show rankLoA C n = 0 ∧ rankHiA C n = 0 from ⟨by unfold rankLoA; rw [HZ.out, okN_ne hz0], by unfold rankHiA; rw [HZ.out, okN_ne hz0]⟩)
    clear hz0
    have hm := heap_ext3 HM1.out HEW.out
    have d0 := cell_of_heap hm 0
    have d1 := cell_of_heap hm 1
    have g0 := cell_frozen hm 0
    have g1 := cell_frozen hm 1
    have HMW := Lib.hid hm
    clear hm
    go_wp2
    refine rrankEndA06 ⟨HNA.out.1, HNA.out.2, HZ.out⟩ (HE.out.trans HEW.out) HMW.out HSZ.out ?_ ?_ ?_ <;> rfl
  subst hz0
  obtain ⟨hC, hbt, hso⟩ := errC_0 HTZ.out.2.symm
  have hTC : T = tabC C := by rw [HTZ.out.1, askT_0 HTZ.out.2.symm]
  have htl : T.length = C.meters.length := by rw [hTC, tabC_len]
  obtain ⟨h0, h1⟩ := isTB_iff.1 (HB.out.symm.trans hbt)
  obtain ⟨i, rfl⟩ : ∃ i : Nat, n = i := ⟨n.toNat, by omega⟩
  have hi : i < T.length := by omega
  have hG : TabG T := by rw [hTC]; exact tabC_ok hC hso
  have HZ := Lib.hid (show errT C i = 0 from by unfold errT; rw [← HB.out, ← HTZ.out.2])
  have HNA := Lib.hid (show rankLoA C i = (rkLo T i : Nat) ∧ rankHiA C i = (rkHi T i : Nat) from ⟨by unfold rankLoA; rw [HZ.out, okN_0 rfl, hTC]; rfl, by unfold rankHiA; rw [HZ.out, okN_0 rfl, hTC]; rfl⟩)
  have HRK := Lib.hid (rrank06 T hG.ok (by rw [hTC]; exact tabR_ok (by rw [← hbt]; exact HTZ.out.2.symm) hW) i hi qt ct w2 HLT.out)
  unfold rkV at HRK
  obtain ⟨x1, hx1⟩ : ∃ x : Nat, x = rkLo T i := ⟨_, rfl⟩
  obtain ⟨x2, hx2⟩ : ∃ x : Nat, x = rkHi T i := ⟨_, rfl⟩
  rw [← hx1, ← hx2] at HRK HNA
  clear hC hbt hso hTC htl h0 h1 hi hG hx1 hx2
  go_wp2_with (go_at_call 65; refine HRK.out.mono ?_; rintro e w3 ⟨rfl, hE3⟩; have hm := heap_ext3 HM1.out (HEW.out.trans hE3); have d0 := cell_of_heap hm 0; have d1 := cell_of_heap hm 1; have g0 := cell_frozen hm 0; have g1 := cell_frozen hm 1)
  refine rrankEndA06 ⟨HNA.out.1, HNA.out.2, HZ.out⟩ (HE.out.trans (HEW.out.trans hE3)) hm HSZ.out ?_ ?_ ?_ <;> rfl
end Go.Proofs.YtaoamnhchidjfaaGreatDoor
