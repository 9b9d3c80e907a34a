
/- Charts: the walks of the reference's Cut, top, Top and May. -/
import Derived.Test.YtaoamnhchidjfaaGreatDoorCC
import Derived.Test.YtaoamnhchidjfaaGreatDoorE2b
namespace Go.Proofs.YtaoamnhchidjfaaGreatDoor
open Go.RowKit

theorem cutRef_succ (T : Tab) (k : Int) {m : Nat} (h : m < (prL T []).length) :
    cutRef T k (m + 1) = (min (if m = 0 then cutN T.length (vT (prL T [])[m]) k else (cutRef T k m).1) (cutN T.length (vT (prL T [])[m]) k), max (if m = 0 then cutN T.length (vT (prL T [])[m]) k else (cutRef T k m).2) (cutN T.length (vT (prL T [])[m]) k)) := by
  unfold cutRef
  revert h
  generalize prL T [] = L
  intro h
  cases L with
  | nil => cases h
  | cons t l =>
    cases m with
    | zero => rfl
    | succ m =>
      have hm : m < l.length := by simpa using h
      simp only [List.take_succ_cons, List.getElem_cons_succ, if_neg (Nat.succ_ne_zero m)]
      rw [show t :: l.take (m + 1) = (t :: l.take m) ++ [l[m]] from by rw [List.take_succ_eq_append_getElem hm]; rfl, List.foldl_append]
      rfl

theorem rcutEnd06 {w W : World} {s : Nat} {a : Act} {lo hi z lo' hi' z' : Int} {x y : Value} {t : TypeId} (hk : lo' = lo ∧ hi' = hi ∧ z' = z) (hE : Ext w W)
    (hm : W.heap[s]? = some (.cells #[x, y] t)) (hs : w.heap.size ≤ s) (ha : a.tmps[4]? = some (.pointer (some ⟨s, 0, none⟩))) (hb : a.tmps[5]? = some (.int .i64 z)) (hd : a.defers = []) :
    bodyPost Tryz.prog Tryz.f21 (RetSp lo' hi' z' w) .ret a ((W.setCell ⟨s, 0, none⟩ (.int .i64 lo)).setCell ⟨s, 1, none⟩ (.int .i64 hi)) := by
  have h := heap_pair (y0 := .int .i64 lo) (y1 := .int .i64 hi) hm
  have c0 := cell_of_heap h 0
  have c1 := cell_of_heap h 1
  simp at c0 c1
  refine bodyPost_ret (v := .tuple #[.agg #[.int .i64 lo, .int .i64 hi], .int .i64 z]) ?_ hd ⟨by rw [hk.1, hk.2.1, hk.2.2], Ext.setCell (Ext.setCell hE (p := ⟨s, 0, none⟩) hs _) (p := ⟨s, 1, none⟩) hs _⟩
  cases a with
  | mk tm df =>
    simp only at ha hb
    simp [results, Tryz.results21, go_sem, ha, hb, c0, c1]

set_option maxRecDepth 20000 in
set_option maxHeartbeats 3200000 in
theorem rCut06 (C : Ch) (n : Int) (v : Value) (w : World) (hv : ChV w v C) (hs : ChSm C) (hT : ∀ M ∈ C.meters, farB M = false) (hW : waysF C ≤ 70) :
    Calls Tryz.prog 21 #[v, .int .i64 n] w (RetSp (cutLoA C n) (cutHiA C n) (errF C n) w) := by
  have HV := Lib.hid hv
  have HS := Lib.hid hs
  have HT := Lib.hid hT
  have HW := Lib.hid hW
  obtain ⟨p, c, q, d, rfl, hp, hq⟩ := hv
  clear hp hq hT hs hW
  go_enter Tryz.func21, Tryz.ntmps21
  go_upto_region 1 with (fail)
  obtain ⟨s0, hs0⟩ : ∃ s0, s0 = w.heap.size := ⟨_, rfl⟩
  obtain ⟨W, hWE⟩ : ∃ W, W = (w.alloc (.cells #[.slice p C.meters.length c, .slice q C.extra.length d, .int .i64 C.frm, .int .i64 C.tto] 25)).alloc (.cells #[.int .i64 0, .int .i64 0] 36) := ⟨_, rfl⟩
  have m0 : W.heap[s0]? = some (.cells #[.slice p C.meters.length c, .slice q C.extra.length d, .int .i64 C.frm, .int .i64 C.tto] 25) := by rw [hs0, hWE, Below.heap_alloc _ _ _ (by rw [size_alloc]; omega)]; exact heap_new _ _
  have m1 : W.heap[s0 + 1]? = some (.cells #[.int .i64 0, .int .i64 0] 36) := by rw [hs0, hWE]; exact heap_new2 _ _ _
  have HM1 := Lib.hid m1
  have HSZ := Lib.hid (show w.heap.size ≤ s0 + 1 from by omega)
  have hE : Ext w W := by rw [hWE]; exact Ext.alloc (Ext.alloc (Ext.refl _) _) _
  rw [← hs0, ← hWE]
  have HKC := Lib.hid (fun y (h : Ext W y) => (⟨h.cell (cell_of_heap m0 0), h.cell (cell_of_heap m0 1), h.cell (cell_of_heap m0 2), h.cell (cell_of_heap m0 3)⟩ :
    y.cell? ⟨s0, 0, none⟩ = some (.slice p C.meters.length c) ∧ y.cell? ⟨s0, 1, none⟩ = some (.slice q C.extra.length d) ∧ y.cell? ⟨s0, 2, none⟩ = some (.int .i64 C.frm) ∧ y.cell? ⟨s0, 3, none⟩ = some (.int .i64 C.tto)))
  have HE := Lib.hid hE
  have HVW := Lib.hid (fun y (h : Ext W y) => HV.out.ext (HE.out.trans h))
  obtain ⟨b, hb⟩ : ∃ b, b = isFB C n := ⟨_, rfl⟩
  have HIS := Lib.hid (fun y (h : Ext W y) => (show Calls Tryz.prog 26 #[.agg #[.slice p C.meters.length c, .slice q C.extra.length d, .int .i64 C.frm, .int .i64 C.tto], .int .i64 n] y (RetE (.bool b) y) from by rw [hb]; exact rIsRank06 C n _ y (HVW.out y h) (by have := HS.out.nm; omega)))
  have HB := Lib.hid hb
  clear hb
  clear hWE m0 m1 hE hs0
  obtain ⟨T, hTT⟩ : ∃ T, T = askT C b := ⟨_, rfl⟩
  obtain ⟨z, hz⟩ : ∃ z, z = errC C b := ⟨_, rfl⟩
  have HAK := Lib.hid (fun y (h : Ext W y) => (show Calls Tryz.prog 63 #[.agg #[.slice p C.meters.length c, .slice q C.extra.length d, .int .i64 C.frm, .int .i64 C.tto], .bool b] y (RetTb T z y) from by rw [hTT, hz]; exact rNumbers06 C b _ y (HV.out.ext (HE.out.trans h)) HS.out HT.out))
  have HTZ := Lib.hid (⟨hTT, hz⟩ : T = askT C b ∧ z = errC C b)
  clear hTT hz
  refine wp_region_facts 9 [[], [], [], [1, 2], [0, 3], [4], [5], [5], [6]] [8, 7] Ext (FL [Is (.agg #[.slice p C.meters.length c, .slice q C.extra.length d, .int .i64 C.frm, .int .i64 C.tto]), Is (.agg #[.slice p C.meters.length c, .slice q C.extra.length d, .int .i64 C.frm, .int .i64 C.tto]), Is (.int .i64 n), Is (.bool b), TabF T z W.heap.size, TabF T z W.heap.size, RowF T W.heap.size, Is (.int .i64 z), RowF T W.heap.size]) (by kernel_rfl) (by kernel_rfl) Ext.refl (fun _ _ _ => Ext.trans) (fun _ _ => Ext.size) (FL.mono ⟨Is.mono, Is.mono, Is.mono, Is.mono, TabF.mono, TabF.mono, RowF.mono, Is.mono, RowF.mono, trivial⟩) ⟨?_, ?_, ?_, ?_, ?_, ?_, ?_, ?_, ?_, trivial⟩ ?_
  · refine opF_step ?_
    intro ys l0 h0 w' hr hf K hK
    clear hf
    obtain ⟨j0, j1, j2, j3⟩ := HKC.out w' ((Ext.refl W).drew.trans hr)
    simp only [fill, Act.put, dstO, List.take_succ_cons, List.take_zero, List.setIfInBounds_toArray, List.set_cons_zero, List.set_cons_succ, List.getElem?_cons_zero, Nat.zero_add, Nat.reduceAdd] at hK ⊢
    refine OpB.mk' ?_
    go_simp
    exact hK.out _ _ rfl (Ext.refl _)
  · refine opF_step ?_
    intro ys l0 h0 w' hr hf K hK
    clear hf
    obtain ⟨j0, j1, j2, j3⟩ := HKC.out w' ((Ext.refl W).drew.trans hr)
    simp only [fill, Act.put, dstO, List.take_succ_cons, List.take_zero, List.setIfInBounds_toArray, List.set_cons_zero, List.set_cons_succ, List.getElem?_cons_zero, List.getElem?_cons_succ, Nat.zero_add, Nat.reduceAdd] at hK ⊢
    refine OpB.mk' ?_
    go_simp
    exact hK.out _ _ rfl (Ext.refl _)
  · refine opF_step ?_
    intro ys l0 h0 w' hr hf K hK
    clear hf
    simp only [fill, Act.put, dstO, List.take_succ_cons, List.take_zero, List.setIfInBounds_toArray, List.set_cons_zero, List.set_cons_succ, List.getElem?_cons_zero, List.getElem?_cons_succ, Nat.zero_add, Nat.reduceAdd] at hK ⊢
    refine OpB.mk' ?_
    go_simp
    exact hK.out _ _ rfl (Ext.refl _)
  · refine opF_step ?_
    intro ys l0 h0 w' hr hf K hK
    obtain ⟨f0, f1, -⟩ := hf
    have e0 : ys 1 = _ := f0
    have e1 : ys 2 = _ := f1
    simp only [fill, Act.put, dstO, List.take_succ_cons, List.take_zero, List.setIfInBounds_toArray, List.set_cons_zero, List.set_cons_succ, List.getElem?_cons_zero, List.getElem?_cons_succ, Nat.zero_add, Nat.reduceAdd] at hK ⊢
    simp only [e0, e1] at hK ⊢
    clear e0 e1 f0 f1
    refine OpB.mk' ?_
    go_simp
    refine (HIS.out w' ((Ext.refl W).drew.trans hr)).mono ?_
    rintro e w2 ⟨rfl, hE2⟩
    exact hK.out _ _ rfl hE2
  · refine opF_step ?_
    intro ys l0 h0 w' hr hf K hK
    obtain ⟨f0, f1, -⟩ := hf
    have e0 : ys 0 = _ := f0
    have e1 : ys 3 = _ := f1
    simp only [fill, Act.put, dstO, List.take_succ_cons, List.take_zero, List.setIfInBounds_toArray, List.set_cons_zero, List.set_cons_succ, List.getElem?_cons_zero, List.getElem?_cons_succ, Nat.zero_add, Nat.reduceAdd] at hK ⊢
    simp only [e0, e1] at hK ⊢
    clear e0 e1 f0 f1
    refine OpB.mk' ?_
    go_simp
    refine (HAK.out w' ((Ext.refl W).drew.trans hr)).mono ?_
    rintro e w2 ⟨u, vs, rfl, hR, hE2, hcp⟩
    exact hK.out _ _ ⟨u, vs, rfl, hR.base (Ext.size ((Ext.refl W).drew.trans hr)), hcp⟩ hE2
  · refine opF_step ?_
    intro ys l0 h0 w' hr hf K hK
    obtain ⟨f0, -⟩ := hf
    obtain ⟨u, vs, e0, hR, hcp⟩ := f0
    simp only [fill, Act.put, dstO, List.take_succ_cons, List.take_zero, List.setIfInBounds_toArray, List.set_cons_zero, List.set_cons_succ, List.getElem?_cons_zero, List.getElem?_cons_succ, Nat.zero_add, Nat.reduceAdd] at hK ⊢
    simp only [e0] at hK ⊢
    clear e0
    refine OpB.mk' ?_
    go_simp
    exact hK.out _ _ ⟨u, vs, rfl, hR, hcp⟩ (Ext.refl _)
  · refine opF_step ?_
    intro ys l0 h0 w' hr hf K hK
    obtain ⟨f0, -⟩ := hf
    obtain ⟨u, vs, e0, hR, hcp⟩ := f0
    simp only [fill, Act.put, dstO, List.take_succ_cons, List.take_zero, List.setIfInBounds_toArray, List.set_cons_zero, List.set_cons_succ, List.getElem?_cons_zero, List.getElem?_cons_succ, Nat.zero_add, Nat.reduceAdd] at hK ⊢
    simp only [e0] at hK ⊢
    clear e0
    refine OpB.mk' ?_
    go_simp
    exact hK.out _ _ ⟨vs, hR, hcp⟩ (Ext.refl _)
  · refine opF_step ?_
    intro ys l0 h0 w' hr hf K hK
    obtain ⟨f0, -⟩ := hf
    obtain ⟨u, vs, e0, hR, hcp⟩ := f0
    simp only [fill, Act.put, dstO, List.take_succ_cons, List.take_zero, List.setIfInBounds_toArray, List.set_cons_zero, List.set_cons_succ, List.getElem?_cons_zero, List.getElem?_cons_succ, Nat.zero_add, Nat.reduceAdd] at hK ⊢
    simp only [e0] at hK ⊢
    clear e0
    refine OpB.mk' ?_
    go_simp
    exact hK.out _ _ rfl (Ext.refl _)
  · refine opF_step ?_
    intro ys l0 h0 w' hr hf K hK
    obtain ⟨f0, -⟩ := hf
    simp only [fill, Act.put, dstO, List.take_succ_cons, List.take_zero, List.setIfInBounds_toArray, List.set_cons_zero, List.set_cons_succ, List.getElem?_cons_zero, List.getElem?_cons_succ, Nat.zero_add, Nat.reduceAdd] at hK ⊢
    refine OpB.mk' ?_
    go_simp
    exact hK.out _ _ f0 (Ext.refl _)
  intro ys l0 h0 w2 hr hf hsp
  obtain ⟨f8, f7, -⟩ := hf
  obtain ⟨vs, hR, hcp⟩ := f8
  have e7 : ys 7 = _ := f7
  simp only [fill, Act.put, List.take_succ_cons, List.take_zero, List.setIfInBounds_toArray, List.set_cons_zero, List.set_cons_succ, Nat.zero_add, Nat.reduceAdd, List.drop_succ_cons, List.drop_zero]
  rw [e7]
  clear e7 f7
  generalize ys 8 = u at hR ⊢
  clear hsp
  have hEW : Ext W w2 := (Ext.refl W).drew.trans hr
  have HR := Lib.hid hR
  have HCP := Lib.hid hcp
  have HEW := Lib.hid hEW
  obtain ⟨qt, ct, rfl, hLT⟩ := hR.lists
  have HLT := Lib.hid hLT
  clear hr hEW hR hcp hLT HAK
  by_cases hz0 : z = 0
  case neg =>
    have hg : (z == 0) = false := by simpa using hz0
    have HZ := Lib.hid (show errF C n = z from by unfold errF; rw [← HB.out, HTZ.out.2])
    have HNA := Lib.hid (show cutLoA C n = 0 ∧ cutHiA C n = 0 from ⟨by unfold cutLoA; rw [HZ.out, okN_ne hz0], by unfold cutHiA; rw [HZ.out, okN_ne hz0]⟩)
    clear hz0
    have hm := heap_ext3 HM1.out HEW.out
    have d0 := cell_of_heap hm 0
    have d1 := cell_of_heap hm 1
    have g0 := cell_frozen hm 0
    have g1 := cell_frozen hm 1
    have HMW := Lib.hid hm
    clear hm
    go_wp2
    refine rcutEnd06 ⟨HNA.out.1, HNA.out.2, HZ.out⟩ (HE.out.trans HEW.out) HMW.out HSZ.out ?_ ?_ ?_ <;> rfl
  subst hz0
  obtain ⟨hC, hbt, hso⟩ := errC_0 HTZ.out.2.symm
  have hTC : T = tabC C := by rw [HTZ.out.1, askT_0 HTZ.out.2.symm]
  have htl : T.length = C.meters.length := by rw [hTC, tabC_len]
  obtain ⟨h0, h1⟩ := isFB_iff.1 (HB.out.symm.trans hbt)
  obtain ⟨kn, rfl⟩ : ∃ i : Nat, n = i := ⟨n.toNat, by omega⟩
  have hG : TabG T := by rw [hTC]; exact tabC_ok hC hso
  have hR : TabR T := by rw [hTC]; exact tabR_ok (by rw [← hbt]; exact HTZ.out.2.symm) HW.out
  have HZ := Lib.hid (show errF C kn = 0 from by unfold errF; rw [← HB.out, ← HTZ.out.2])
  have hk1 : 1 ≤ kn := by omega
  have hk2 : kn ≤ T.length := by omega
  have hcr := cut_ref hG.ok hk1 hk2
  have HNA := Lib.hid (show cutLoA C kn = (cutRef T kn (prL T []).length).1 ∧ cutHiA C kn = (cutRef T kn (prL T []).length).2 from ⟨by unfold cutLoA; rw [HZ.out, okN_0 rfl, ← hTC, hcr], by unfold cutHiA; rw [HZ.out, okN_0 rfl, ← hTC, hcr]⟩)
  have HTR := Lib.hid (rtruthsAll06 T hR qt ct w2 HLT.out)
  have HRL := Lib.hid (fun k (h : k < (prL T []).length) => prL_row h)
  have HSU := Lib.hid (fun k (h : k < (prL T []).length) => cutRef_succ T kn h)
  have hll := prL_70 hR
  have hn6 := hR.len
  obtain ⟨L, hL⟩ : ∃ L, L = prL T [] := ⟨_, rfl⟩
  rw [← hL] at HTR HNA HRL HSU hll
  clear hC hbt hso hTC htl h0 h1 hG hR hcr hL
  go_upto_region 5 with (go_at_call 70; refine HTR.out.mono ?_; rintro e W4 ⟨pq, pc, rfl, hE4, hLs⟩)
  have HE4 := Lib.hid (HEW.out.trans hE4)
  have HLS := Lib.hid hLs
  have hsW : s0 + 1 < W4.heap.size := (Array.getElem?_eq_some_iff.1 (heap_ext3 HM1.out HE4.out)).1
  clear hE4 hLs HTR
  go_upto_region 6 with (fail)
  obtain ⟨s2, hs2⟩ : ∃ s2, s2 = W4.heap.size := ⟨_, rfl⟩
  obtain ⟨W5, hW5⟩ : ∃ W5, W5 = W4.alloc (.cells #[.int .i64 0, .int .i64 0] 36) := ⟨_, rfl⟩
  have m2 : W5.heap[s2]? = some (.cells #[.int .i64 0, .int .i64 0] 36) := by rw [hs2, hW5]; exact heap_new _ _
  have hE5 : Ext W4 W5 := by rw [hW5]; exact Ext.alloc (Ext.refl _) _
  rw [← hs2, ← hW5]
  have HM2 := Lib.hid m2
  have HE5 := Lib.hid hE5
  have hge : W4.heap.size ≤ s2 := by omega
  clear hW5 m2 hE5 hs2
  go_wp2
  go_loopw [10] (fun a wr => ∃ k : Nat, k ≤ L.length ∧ a = .int .i64 k ∧ Ext W4 wr ∧ wr.heap[s2]? = some (.cells #[.int .i64 (cutRef T kn k).1, .int .i64 (cutRef T kn k).2] 36)) (fun a _ => L.length - (intOf a).toNat)
  case atStart => exact ⟨0, Nat.zero_le _, rfl, HE5.out, HM2.out⟩
  case round =>
    obtain ⟨k, hk, rfl, hEW, hB⟩ := hrel
    have HEY := Lib.hid hEW
    have HB0 := Lib.hid hB
    clear hEW hB
    by_cases hlt : k < L.length
    · have hlt' : (k : Int) < (L.length : Int) := by omega
      obtain ⟨b0, o0, rq, rc, rfl, hc0, hc1⟩ := HLS.out.at k hlt
      have hsu := HSU.out k hlt
      have hrl := HRL.out k hlt
      obtain ⟨t, ht⟩ : ∃ t, t = L[k] := ⟨_, rfl⟩
      rw [← ht] at hc0 hc1 hsu hrl
      obtain ⟨ia, hia, hia2, -⟩ := atN_ex (n := T.length) (vT t) hk1 hk2
      have hat := fun x : ExtW wr => ExtW.call (x := x) (At06 t kn hk1 (by omega) (by omega) rq rc x.w (hc1.ext (HEY.out.trans x.h)))
      rw [hrl, hia] at hat
      obtain ⟨tb, tof, rfl, hta⟩ := hc1.at ia (by omega)
      obtain ⟨n, hn⟩ : ∃ n, n = cutN T.length (vT t) kn := ⟨_, rfl⟩
      have hcv : t[ia] = n := by rw [hn]; unfold cutN; rw [hia, Int.toNat_natCast, vT_get (t := t) (i := ia) (by omega)]
      rw [hcv] at hta
      rw [← hn] at hsu
      have r0 := ExtW.cell (HEY.out.cell hc0)
      have r1 := ExtW.cell (HEY.out.cell hta)
      rw [hrl] at r0
      have hlt2 : (ia : Int) < (T.length : Int) := by omega
      have HAT := Lib.hid hat
      have HSUK := Lib.hid hsu
      obtain ⟨y0, hy0⟩ := ExtW.of (Ext.refl wr)
      conv => arg 5; rw [hy0]
      clear hsu hrl ht hat hn hcv hc0 hc1 hta hia hy0
      go_upto_region 9 with (fail)
      refine wp_region_extW (by kernel_rfl) (by kernel_rfl) ?_
      repeat (go_big_quiet_step ((go_at_call 32; exact HAT.out _)))
      refine wpQuiet_nil ?_
      rintro _ ⟨x2, rfl⟩
      have HB3 := Lib.hid (heap_ext3 HB0.out x2.h)
      have HE3 := Lib.hid (HEY.out.trans x2.h)
      clear r0 r1 HAT HB0 hia2 hlt2
      by_cases hk0 : k = 0
      · subst hk0
        have HS1 := Lib.hid (show cutRef T kn 1 = (n, n) from by rw [HSUK.out, if_pos rfl, if_pos rfl, Int.min_self, Int.max_self])
        have d0 := cell_of_heap HB3.out 0
        have d1 := cell_of_heap HB3.out 1
        have g0 := cell_frozen HB3.out 0
        have g1 := cell_frozen HB3.out 1
        go_upto_region 12 with (fail)
        obtain ⟨W6, hW6⟩ : ∃ W6, W6 = (x2.w.setCell ⟨s2, 0, none⟩ (.int .i64 n)).setCell ⟨s2, 1, none⟩ (.int .i64 n) := ⟨_, rfl⟩
        have m6 : W6.heap[s2]? = some (.cells #[.int .i64 n, .int .i64 n] 36) := by rw [hW6]; exact heap_pair HB3.out
        have hE6 : Ext W4 W6 := by rw [hW6]; exact Ext.setCell (Ext.setCell HE3.out (p := ⟨s2, 0, none⟩) hge _) (p := ⟨s2, 1, none⟩) hge _
        rw [← hW6]
        have HE6 := Lib.hid hE6
        have HM6 := Lib.hid m6
        clear d0 d1 g0 g1 hW6 m6 hE6
        have d0 := cell_of_heap HM6.out 0
        have d1 := cell_of_heap HM6.out 1
        have g0 := cell_frozen HM6.out 0
        have g1 := cell_frozen HM6.out 1
        have hnn : ¬(n < n) := by omega
        go_wp2
        go_roundw
        case rel => exact ⟨1, by omega, rfl, Ext.setCell (Ext.setCell HE6.out (p := ⟨s2, 0, none⟩) hge _) (p := ⟨s2, 1, none⟩) hge _, by rw [HS1.out]; exact heap_pair HM6.out⟩
        case measure => simp [intOf]; omega
      · have hk0' : ((k : Int) == 0) = false := by simp; omega
        obtain ⟨x, hx⟩ : ∃ x, x = (cutRef T kn k).1 := ⟨_, rfl⟩
        obtain ⟨y, hy⟩ : ∃ y, y = (cutRef T kn k).2 := ⟨_, rfl⟩
        have hsu := HSUK.out
        rw [if_neg hk0, if_neg hk0, ← hx, ← hy] at hsu
        rw [← hx, ← hy] at HB3
        have d0 := cell_of_heap HB3.out 0
        have d1 := cell_of_heap HB3.out 1
        have g0 := cell_frozen HB3.out 0
        have g1 := cell_frozen HB3.out 1
        obtain ⟨lo2, hlo2⟩ : ∃ lo2 : Int, min x n = lo2 := ⟨_, rfl⟩
        obtain ⟨hi2, hhi2⟩ : ∃ hi2 : Int, max y n = hi2 := ⟨_, rfl⟩
        have HI0 := (show (if n < x then n else x) = lo2 from by rw [← hlo2]; split <;> omega)
        have HI1 := (show (if y < n then n else y) = hi2 from by rw [← hhi2]; split <;> omega)
        rw [hlo2, hhi2] at hsu
        have HS1 := Lib.hid hsu
        clear hsu hx hy hlo2 hhi2 HSUK hk0
        go_wp2
        go_roundw
        case rel => exact ⟨k + 1, by omega, by simp, Ext.setCell (Ext.setCell HE3.out (p := ⟨s2, 0, none⟩) hge _) (p := ⟨s2, 1, none⟩) hge _, by rw [HS1.out]; exact heap_pair HB3.out⟩
        case measure => simp [intOf]; omega
    · obtain rfl : k = L.length := by omega
      have hge' : ¬((L.length : Int) < (L.length : Int)) := by omega
      have HMZ := Lib.hid (heap_ext3 HM1.out (HE4.out.trans HEY.out))
      have d0 := cell_of_heap HB0.out 0
      have d1 := cell_of_heap HB0.out 1
      have z0 := cell_frozen HMZ.out 0
      have z1 := cell_frozen HMZ.out 1
      have z2 := cell_of_heap HMZ.out 0
      have z3 := cell_of_heap HMZ.out 1
      obtain ⟨x, hx⟩ : ∃ x, x = (cutRef T kn L.length).1 := ⟨_, rfl⟩
      obtain ⟨y, hy⟩ : ∃ y, y = (cutRef T kn L.length).2 := ⟨_, rfl⟩
      rw [← hx] at d0
      rw [← hy] at d1
      rw [← hx, ← hy] at HNA
      clear hx hy
      go_wp2
      refine rcutEnd06 ⟨HNA.out.1, HNA.out.2, HZ.out⟩ (HE.out.trans (HE4.out.trans HEY.out)) HMZ.out HSZ.out ?_ ?_ ?_ <;> rfl
end Go.Proofs.YtaoamnhchidjfaaGreatDoor
