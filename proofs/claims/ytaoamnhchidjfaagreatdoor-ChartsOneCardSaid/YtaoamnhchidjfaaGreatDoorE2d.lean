
/- Charts: the walks of the reference's top, Top and May. -/
import Derived.Test.YtaoamnhchidjfaaGreatDoorE2c
namespace Go.Proofs.YtaoamnhchidjfaaGreatDoor
open Go.RowKit

/-- numbers in memory of their own -/
def RetO1 (l : List Int) (w : World) (e : Ending) (w' : World) : Prop := ∃ u, e = .returned u ∧ w'.ownsRow w.heap.size 3 1 u l.length (intVs l) ∧ Ext w w'
def tmF (T : Tab) (f : Int) (some : Bool) (i : Nat) : Bool := topF T f i || (some && mayF T f i)

set_option maxRecDepth 20000 in
set_option maxHeartbeats 3200000 in
theorem rtop06 (T : Tab) (hT : TabOK T) (hR : TabR T) (f : Int) (some : Bool) (q : Option Addr) (c : Nat) (w : World) (hv : ListsAt w q T) :
    Calls Tryz.prog 77 #[.slice q T.length c, .int .i64 f, .bool some] w (RetO1 (pickTo (tmF T f some) T.length) w) := by
  have HRK := Lib.hid (fun k (hk : k < T.length) y (h : Ext w y) => rrank06 T hT hR k hk q c y (hv.ext h))
  have hn6 := hR.len
  obtain ⟨i0, hi, hz0, hz1, hz2⟩ := info_parts info_a
  clear hv hT hR
  go_enter Tryz.func77, Tryz.ntmps77
  go_wp2
  go_loopw [7, 8] (fun u i wr => ∃ k : Nat, k ≤ T.length ∧ i = .int .i64 k ∧ Ext w wr ∧ wr.ownsRow w.heap.size 3 1 u (pickTo (tmF T f some) k).length (intVs (pickTo (tmF T f some) k))) (fun _ i _ => T.length - (intOf i).toNat)
  case atStart => exact ⟨0, Nat.zero_le _, rfl, Ext.refl _, World.ownsRow_nil _ _ _ _⟩
  case round =>
    obtain ⟨k, hk, rfl, hE, hO⟩ := hrel
    have HE := Lib.hid hE
    have HO := Lib.hid hO
    clear hE hO
    by_cases hlt : k < T.length
    · have hlt' : (k : Int) < (T.length : Int) := by omega
      have hrk := HRK.out k hlt wr HE.out
      unfold rkV at hrk
      have hps := pickTo_succ (tmF T f some) k
      have hpl := pickTo_len (tmF T f some) k
      have hfv : tmF T f some k = (decide ((rkHi T k : Int) ≤ f) || (some && decide ((rkLo T k : Int) ≤ f))) := rfl
      obtain ⟨x1, hx1⟩ : ∃ x : Int, x = (rkLo T k : Nat) := ⟨_, rfl⟩
      obtain ⟨x2, hx2⟩ : ∃ x : Int, x = (rkHi T k : Nat) := ⟨_, rfl⟩
      rw [← hx1, ← hx2] at hrk hfv
      rw [hfv] at hps
      obtain ⟨L, hL⟩ : ∃ L, L = pickTo (tmF T f some) k := ⟨_, rfl⟩
      rw [← hL] at HO hps hpl
      have HRJ := Lib.hid hrk
      have HPS := Lib.hid hps
      clear hrk hps hfv hx1 hx2 hL
      go_upto_region 6 with (go_at_call 65; refine HRJ.out.mono ?_; rintro e w1 ⟨rfl, hE1⟩)
      obtain ⟨s1, hs1⟩ : ∃ s1, s1 = w1.heap.size := ⟨_, rfl⟩
      obtain ⟨W2, hW2⟩ : ∃ W2, W2 = w1.alloc (.cells #[.int .i64 x1, .int .i64 x2] 36) := ⟨_, rfl⟩
      have m1 : W2.heap[s1]? = .some (.cells #[.int .i64 x1, .int .i64 x2] 36) := by rw [hs1, hW2]; exact heap_new _ _
      have hE2 : Ext wr W2 := by rw [hW2]; exact hE1.alloc _
      rw [← hs1, ← hW2]
      have d0 := cell_of_heap m1 0
      have d1 := cell_of_heap m1 1
      have HO2 := Lib.hid (ownsRow_ext HO.out hE2)
      have HE2 := Lib.hid (HE.out.trans hE2)
      clear hW2 m1 hE1 hE2 hs1 HO HE HRJ
      by_cases h2 : x2 ≤ f
      · have hd : decide (x2 ≤ f) = true := decide_eq_true h2
        have HPN := Lib.hid (show pickTo (tmF T f some) (k + 1) = L ++ [(k : Int)] from by rw [HPS.out, hd]; rfl)
        clear HPS
        go_wp2_with (at_builtin; refine wpList_append_lies _ rfl (.tmp 32) (.tmp 34) 23 rfl w.heap.size 3 i0 (.int .i64 0) 1 8 Tryz.underlying23 hi hz0 hz1 hz2 rfl (by decide) _ L.length _ rfl (HO2.out.alloc _) ⟨W2.heap.size, 0, none⟩ 1 1 [.int .i64 (k : Int)] rfl rfl (hnewsE (Ext.refl _) rfl) (one_int _) (by decide) ?c3 ?c4 ?c5 (W2.heap.size + 1) (size_alloc _ _) ?_)
        case c3 => unfold maxLen; omega
        case c4 => omega
        case c5 => have := HE2.out.size; first | omega | (rw [size_alloc]; omega)
        intro g4 cap4 w4 hown4 hgr4 hat4 hlt4
        have hE4 : Ext w w4 := Below.grown (HE2.out.alloc _) hgr4 (HE2.out.alloc _).size (fun i hi => (HO2.out.lt i hi).1)
        have HO4 := Lib.hid hown4
        have HE4 := Lib.hid hE4
        clear hown4 hgr4 hat4 hlt4 hE4
        go_wp2
        go_roundw
        case rel => exact ⟨k + 1, by omega, by simp, HE4.out, by rw [HPN.out, intVs_snoc, List.length_append]; exact HO4.out⟩
        case measure => simp [intOf]; omega
      · have hd : decide (x2 ≤ f) = false := decide_eq_false h2
        cases some with
        | false =>
          have HPN := Lib.hid (show pickTo (tmF T f false) (k + 1) = L from by rw [HPS.out, hd]; exact List.append_nil _)
          clear HPS
          go_wp2
          go_roundw
          case rel => exact ⟨k + 1, by omega, by simp, HE2.out, by rw [HPN.out]; exact HO2.out⟩
          case measure => simp [intOf]; omega
        | true =>
          by_cases h1 : x1 ≤ f
          · have hd1 : decide (x1 ≤ f) = true := decide_eq_true h1
            have HPN := Lib.hid (show pickTo (tmF T f true) (k + 1) = L ++ [(k : Int)] from by rw [HPS.out, hd, hd1]; rfl)
            clear HPS
            go_wp2_with (at_builtin; refine wpList_append_lies _ rfl (.tmp 32) (.tmp 34) 23 rfl w.heap.size 3 i0 (.int .i64 0) 1 8 Tryz.underlying23 hi hz0 hz1 hz2 rfl (by decide) _ L.length _ rfl (HO2.out.alloc _) ⟨W2.heap.size, 0, none⟩ 1 1 [.int .i64 (k : Int)] rfl rfl (hnewsE (Ext.refl _) rfl) (one_int _) (by decide) ?c3 ?c4 ?c5 (W2.heap.size + 1) (size_alloc _ _) ?_)
            case c3 => unfold maxLen; omega
            case c4 => omega
            case c5 => have := HE2.out.size; first | omega | (rw [size_alloc]; omega)
            intro g4 cap4 w4 hown4 hgr4 hat4 hlt4
            have hE4 : Ext w w4 := Below.grown (HE2.out.alloc _) hgr4 (HE2.out.alloc _).size (fun i hi => (HO2.out.lt i hi).1)
            have HO4 := Lib.hid hown4
            have HE4 := Lib.hid hE4
            clear hown4 hgr4 hat4 hlt4 hE4
            go_wp2
            go_roundw
            case rel => exact ⟨k + 1, by omega, by simp, HE4.out, by rw [HPN.out, intVs_snoc, List.length_append]; exact HO4.out⟩
            case measure => simp [intOf]; omega
          · have hd1 : decide (x1 ≤ f) = false := decide_eq_false h1
            have HPN := Lib.hid (show pickTo (tmF T f true) (k + 1) = L from by rw [HPS.out, hd, hd1]; exact List.append_nil _)
            clear HPS
            go_wp2
            go_roundw
            case rel => exact ⟨k + 1, by omega, by simp, HE2.out, by rw [HPN.out]; exact HO2.out⟩
            case measure => simp [intOf]; omega
    · obtain rfl : k = T.length := by omega
      have hge : ¬((T.length : Int) < (T.length : Int)) := by omega
      go_wp2
      go_ret
      exact ⟨_, rfl, HO.out, HE.out⟩
theorem askT_ok {C : Ch} (b : Bool) (hW : waysF C ≤ 70) : TabOK (askT C b) ∧ TabR (askT C b) := by
  by_cases hz : errC C b = 0
  · obtain ⟨hv, hb, hs⟩ := errC_0 hz
    have hG := tabC_ok hv hs
    rw [askT_0 hz]
    exact ⟨hG.ok, tabR_ok (by rw [← hb]; exact hz) hW⟩
  · rw [askT_ne hz]
    exact ⟨fun l hl => (by cases hl), ⟨fun l hl => (by cases hl), fun l hl => (by cases hl), by decide, by decide⟩⟩
theorem top_false (C : Ch) (n : Int) : pickTo (tmF (askT C (isFB C n)) n false) (askT C (isFB C n)).length = topA C n := by
  unfold topA
  have e : pickTo (tmF (askT C (isFB C n)) n false) (askT C (isFB C n)).length = topL (askT C (isFB C n)) n := pick_congr fun i _ => by unfold tmF; simp
  rw [e]
  by_cases hz : errF C n = 0
  · rw [okL_0 hz, askT_0 hz]
  · rw [okL_ne hz, askT_ne hz]; rfl
theorem top_true (C : Ch) (n : Int) (hW : waysF C ≤ 70) : pickTo (tmF (askT C (isFB C n)) n true) (askT C (isFB C n)).length = mayA C n := by
  unfold mayA
  have e : pickTo (tmF (askT C (isFB C n)) n true) (askT C (isFB C n)).length = mayL (askT C (isFB C n)) n := by
    rw [← may_ref (askT_ok (isFB C n) hW).1 n]
    exact pick_congr fun i _ => by unfold tmF; simp
  rw [e]
  by_cases hz : errF C n = 0
  · rw [okL_0 hz, askT_0 hz]
  · rw [okL_ne hz, askT_ne hz]; rfl

set_option maxRecDepth 20000 in
set_option maxHeartbeats 3200000 in
theorem rTop06 (C : Ch) (n : Int) (v : Value) (w : World) (hv : ChV w v C) (hs : ChSm C) (hT : ∀ M ∈ C.meters, farB M = false) (hY : waysF C ≤ 70) :
    Calls Tryz.prog 38 #[v, .int .i64 n] w (RetL (topA C n) (errF C n) w) := by
  have HV := Lib.hid hv
  have HS := Lib.hid hs
  have HT := Lib.hid hT
  obtain ⟨p, c, q, d, rfl, hp, hq⟩ := hv
  clear hp hq hT hs
  go_enter Tryz.func38, Tryz.ntmps38
  go_upto_region 1 with (fail)
  obtain ⟨s0, hs0⟩ : ∃ s0, s0 = w.heap.size := ⟨_, rfl⟩
  obtain ⟨W, hW⟩ : ∃ W, W = w.alloc (.cells #[.slice p C.meters.length c, .slice q C.extra.length d, .int .i64 C.frm, .int .i64 C.tto] 25) := ⟨_, rfl⟩
  have m0 : W.heap[s0]? = some (.cells #[.slice p C.meters.length c, .slice q C.extra.length d, .int .i64 C.frm, .int .i64 C.tto] 25) := by rw [hs0, hW]; exact heap_new _ _
  have hE : Ext w W := by rw [hW]; exact Ext.alloc (Ext.refl _) _
  rw [← hs0, ← hW]
  have HKC := Lib.hid (fun y (h : Ext W y) => (⟨h.cell (cell_of_heap m0 0), h.cell (cell_of_heap m0 1), h.cell (cell_of_heap m0 2), h.cell (cell_of_heap m0 3)⟩ :
    y.cell? ⟨s0, 0, none⟩ = some (.slice p C.meters.length c) ∧ y.cell? ⟨s0, 1, none⟩ = some (.slice q C.extra.length d) ∧ y.cell? ⟨s0, 2, none⟩ = some (.int .i64 C.frm) ∧ y.cell? ⟨s0, 3, none⟩ = some (.int .i64 C.tto)))
  have HE := Lib.hid hE
  have HVW := Lib.hid (fun y (h : Ext W y) => HV.out.ext (HE.out.trans h))
  obtain ⟨b, hb⟩ : ∃ b, b = isFB C n := ⟨_, rfl⟩
  have HIS := Lib.hid (fun y (h : Ext W y) => (show Calls Tryz.prog 26 #[.agg #[.slice p C.meters.length c, .slice q C.extra.length d, .int .i64 C.frm, .int .i64 C.tto], .int .i64 n] y (RetE (.bool b) y) from by rw [hb]; exact rIsRank06 C n _ y (HVW.out y h) (by have := HS.out.nm; omega)))
  have HB := Lib.hid hb
  clear hb
  clear hW m0 hE hs0
  obtain ⟨T, hTT⟩ : ∃ T, T = askT C b := ⟨_, rfl⟩
  obtain ⟨z, hz⟩ : ∃ z, z = errC C b := ⟨_, rfl⟩
  have HAK := Lib.hid (fun y (h : Ext W y) => (show Calls Tryz.prog 63 #[.agg #[.slice p C.meters.length c, .slice q C.extra.length d, .int .i64 C.frm, .int .i64 C.tto], .bool b] y (RetTb T z y) from by rw [hTT, hz]; exact rNumbers06 C b _ y (HV.out.ext (HE.out.trans h)) HS.out HT.out))
  have HTZ := Lib.hid (⟨hTT, hz⟩ : T = askT C b ∧ z = errC C b)
  clear hTT hz
  refine wp_region_facts 9 [[], [], [], [1, 2], [0, 3], [4], [5], [5], [6]] [8, 7] Ext (FL [Is (.agg #[.slice p C.meters.length c, .slice q C.extra.length d, .int .i64 C.frm, .int .i64 C.tto]), Is (.agg #[.slice p C.meters.length c, .slice q C.extra.length d, .int .i64 C.frm, .int .i64 C.tto]), Is (.int .i64 n), Is (.bool b), TabF T z W.heap.size, TabF T z W.heap.size, RowF T W.heap.size, Is (.int .i64 z), RowF T W.heap.size]) (by kernel_rfl) (by kernel_rfl) Ext.refl (fun _ _ _ => Ext.trans) (fun _ _ => Ext.size) (FL.mono ⟨Is.mono, Is.mono, Is.mono, Is.mono, TabF.mono, TabF.mono, RowF.mono, Is.mono, RowF.mono, trivial⟩) ⟨?_, ?_, ?_, ?_, ?_, ?_, ?_, ?_, ?_, trivial⟩ ?_
  · refine opF_step ?_
    intro ys l0 h0 w' hr hf K hK
    clear hf
    obtain ⟨j0, j1, j2, j3⟩ := HKC.out w' ((Ext.refl W).drew.trans hr)
    simp only [fill, Act.put, dstO, List.take_succ_cons, List.take_zero, List.setIfInBounds_toArray, List.set_cons_zero, List.set_cons_succ, List.getElem?_cons_zero, Nat.zero_add, Nat.reduceAdd] at hK ⊢
    refine OpB.mk' ?_
    go_simp
    exact hK.out _ _ rfl (Ext.refl _)
  · refine opF_step ?_
    intro ys l0 h0 w' hr hf K hK
    clear hf
    obtain ⟨j0, j1, j2, j3⟩ := HKC.out w' ((Ext.refl W).drew.trans hr)
    simp only [fill, Act.put, dstO, List.take_succ_cons, List.take_zero, List.setIfInBounds_toArray, List.set_cons_zero, List.set_cons_succ, List.getElem?_cons_zero, List.getElem?_cons_succ, Nat.zero_add, Nat.reduceAdd] at hK ⊢
    refine OpB.mk' ?_
    go_simp
    exact hK.out _ _ rfl (Ext.refl _)
  · refine opF_step ?_
    intro ys l0 h0 w' hr hf K hK
    clear hf
    simp only [fill, Act.put, dstO, List.take_succ_cons, List.take_zero, List.setIfInBounds_toArray, List.set_cons_zero, List.set_cons_succ, List.getElem?_cons_zero, List.getElem?_cons_succ, Nat.zero_add, Nat.reduceAdd] at hK ⊢
    refine OpB.mk' ?_
    go_simp
    exact hK.out _ _ rfl (Ext.refl _)
  · refine opF_step ?_
    intro ys l0 h0 w' hr hf K hK
    obtain ⟨f0, f1, -⟩ := hf
    have e0 : ys 1 = _ := f0
    have e1 : ys 2 = _ := f1
    simp only [fill, Act.put, dstO, List.take_succ_cons, List.take_zero, List.setIfInBounds_toArray, List.set_cons_zero, List.set_cons_succ, List.getElem?_cons_zero, List.getElem?_cons_succ, Nat.zero_add, Nat.reduceAdd] at hK ⊢
    simp only [e0, e1] at hK ⊢
    clear e0 e1 f0 f1
    refine OpB.mk' ?_
    go_simp
    refine (HIS.out w' ((Ext.refl W).drew.trans hr)).mono ?_
    rintro e w2 ⟨rfl, hE2⟩
    exact hK.out _ _ rfl hE2
  · refine opF_step ?_
    intro ys l0 h0 w' hr hf K hK
    obtain ⟨f0, f1, -⟩ := hf
    have e0 : ys 0 = _ := f0
    have e1 : ys 3 = _ := f1
    simp only [fill, Act.put, dstO, List.take_succ_cons, List.take_zero, List.setIfInBounds_toArray, List.set_cons_zero, List.set_cons_succ, List.getElem?_cons_zero, List.getElem?_cons_succ, Nat.zero_add, Nat.reduceAdd] at hK ⊢
    simp only [e0, e1] at hK ⊢
    clear e0 e1 f0 f1
    refine OpB.mk' ?_
    go_simp
    refine (HAK.out w' ((Ext.refl W).drew.trans hr)).mono ?_
    rintro e w2 ⟨u, vs, rfl, hR, hE2, hcp⟩
    exact hK.out _ _ ⟨u, vs, rfl, hR.base (Ext.size ((Ext.refl W).drew.trans hr)), hcp⟩ hE2
  · refine opF_step ?_
    intro ys l0 h0 w' hr hf K hK
    obtain ⟨f0, -⟩ := hf
    obtain ⟨u, vs, e0, hR, hcp⟩ := f0
    simp only [fill, Act.put, dstO, List.take_succ_cons, List.take_zero, List.setIfInBounds_toArray, List.set_cons_zero, List.set_cons_succ, List.getElem?_cons_zero, List.getElem?_cons_succ, Nat.zero_add, Nat.reduceAdd] at hK ⊢
    simp only [e0] at hK ⊢
    clear e0
    refine OpB.mk' ?_
    go_simp
    exact hK.out _ _ ⟨u, vs, rfl, hR, hcp⟩ (Ext.refl _)
  · refine opF_step ?_
    intro ys l0 h0 w' hr hf K hK
    obtain ⟨f0, -⟩ := hf
    obtain ⟨u, vs, e0, hR, hcp⟩ := f0
    simp only [fill, Act.put, dstO, List.take_succ_cons, List.take_zero, List.setIfInBounds_toArray, List.set_cons_zero, List.set_cons_succ, List.getElem?_cons_zero, List.getElem?_cons_succ, Nat.zero_add, Nat.reduceAdd] at hK ⊢
    simp only [e0] at hK ⊢
    clear e0
    refine OpB.mk' ?_
    go_simp
    exact hK.out _ _ ⟨vs, hR, hcp⟩ (Ext.refl _)
  · refine opF_step ?_
    intro ys l0 h0 w' hr hf K hK
    obtain ⟨f0, -⟩ := hf
    obtain ⟨u, vs, e0, hR, hcp⟩ := f0
    simp only [fill, Act.put, dstO, List.take_succ_cons, List.take_zero, List.setIfInBounds_toArray, List.set_cons_zero, List.set_cons_succ, List.getElem?_cons_zero, List.getElem?_cons_succ, Nat.zero_add, Nat.reduceAdd] at hK ⊢
    simp only [e0] at hK ⊢
    clear e0
    refine OpB.mk' ?_
    go_simp
    exact hK.out _ _ rfl (Ext.refl _)
  · refine opF_step ?_
    intro ys l0 h0 w' hr hf K hK
    obtain ⟨f0, -⟩ := hf
    simp only [fill, Act.put, dstO, List.take_succ_cons, List.take_zero, List.setIfInBounds_toArray, List.set_cons_zero, List.set_cons_succ, List.getElem?_cons_zero, List.getElem?_cons_succ, Nat.zero_add, Nat.reduceAdd] at hK ⊢
    refine OpB.mk' ?_
    go_simp
    exact hK.out _ _ f0 (Ext.refl _)
  intro ys l0 h0 w2 hr hf hsp
  obtain ⟨f8, f7, -⟩ := hf
  obtain ⟨vs, hR, hcp⟩ := f8
  have e7 : ys 7 = _ := f7
  simp only [fill, Act.put, List.take_succ_cons, List.take_zero, List.setIfInBounds_toArray, List.set_cons_zero, List.set_cons_succ, Nat.zero_add, Nat.reduceAdd, List.drop_succ_cons, List.drop_zero]
  rw [e7]
  clear e7 f7
  generalize ys 8 = u at hR ⊢
  clear hsp
  have hEW : Ext W w2 := (Ext.refl W).drew.trans hr
  have HR := Lib.hid hR
  have HCP := Lib.hid hcp
  have HEW := Lib.hid hEW
  obtain ⟨qt, ct, rfl, hLT⟩ := hR.lists
  have HLT := Lib.hid hLT
  clear hr hEW hR hcp hLT HAK
  have hok := askT_ok (C := C) b hY
  have HTP := Lib.hid (show Calls Tryz.prog 77 #[.slice qt T.length ct, .int .i64 n, .bool false] w2 (RetO1 (topA C n) w2) from by
    have h := rtop06 T (by rw [HTZ.out.1]; exact hok.1) (by rw [HTZ.out.1]; exact hok.2) n false qt ct w2 HLT.out
    rw [show pickTo (tmF T n false) T.length = topA C n from by rw [HTZ.out.1, HB.out]; exact top_false C n] at h
    exact h)
  have HZ := Lib.hid (show errF C n = z from by unfold errF; rw [← HB.out, HTZ.out.2])
  clear hok
  go_wp2_with (go_at_call 77; refine HTP.out.mono ?_; rintro e w3 ⟨u, rfl, hO3, hE3⟩)
  go_ret2
  exact ⟨u, by rw [HZ.out]; rfl, ownsRow_base hO3 (HE.out.trans HEW.out).size, HE.out.trans (HEW.out.trans hE3)⟩

set_option maxRecDepth 20000 in
set_option maxHeartbeats 3200000 in
theorem rMay06 (C : Ch) (n : Int) (v : Value) (w : World) (hv : ChV w v C) (hs : ChSm C) (hT : ∀ M ∈ C.meters, farB M = false) (hY : waysF C ≤ 70) :
    Calls Tryz.prog 39 #[v, .int .i64 n] w (RetL (mayA C n) (errF C n) w) := by
  have HV := Lib.hid hv
  have HS := Lib.hid hs
  have HT := Lib.hid hT
  obtain ⟨p, c, q, d, rfl, hp, hq⟩ := hv
  clear hp hq hT hs
  go_enter Tryz.func39, Tryz.ntmps39
  go_upto_region 1 with (fail)
  obtain ⟨s0, hs0⟩ : ∃ s0, s0 = w.heap.size := ⟨_, rfl⟩
  obtain ⟨W, hW⟩ : ∃ W, W = w.alloc (.cells #[.slice p C.meters.length c, .slice q C.extra.length d, .int .i64 C.frm, .int .i64 C.tto] 25) := ⟨_, rfl⟩
  have m0 : W.heap[s0]? = some (.cells #[.slice p C.meters.length c, .slice q C.extra.length d, .int .i64 C.frm, .int .i64 C.tto] 25) := by rw [hs0, hW]; exact heap_new _ _
  have hE : Ext w W := by rw [hW]; exact Ext.alloc (Ext.refl _) _
  rw [← hs0, ← hW]
  have HKC := Lib.hid (fun y (h : Ext W y) => (⟨h.cell (cell_of_heap m0 0), h.cell (cell_of_heap m0 1), h.cell (cell_of_heap m0 2), h.cell (cell_of_heap m0 3)⟩ :
    y.cell? ⟨s0, 0, none⟩ = some (.slice p C.meters.length c) ∧ y.cell? ⟨s0, 1, none⟩ = some (.slice q C.extra.length d) ∧ y.cell? ⟨s0, 2, none⟩ = some (.int .i64 C.frm) ∧ y.cell? ⟨s0, 3, none⟩ = some (.int .i64 C.tto)))
  have HE := Lib.hid hE
  have HVW := Lib.hid (fun y (h : Ext W y) => HV.out.ext (HE.out.trans h))
  obtain ⟨b, hb⟩ : ∃ b, b = isFB C n := ⟨_, rfl⟩
  have HIS := Lib.hid (fun y (h : Ext W y) => (show Calls Tryz.prog 26 #[.agg #[.slice p C.meters.length c, .slice q C.extra.length d, .int .i64 C.frm, .int .i64 C.tto], .int .i64 n] y (RetE (.bool b) y) from by rw [hb]; exact rIsRank06 C n _ y (HVW.out y h) (by have := HS.out.nm; omega)))
  have HB := Lib.hid hb
  clear hb
  clear hW m0 hE hs0
  obtain ⟨T, hTT⟩ : ∃ T, T = askT C b := ⟨_, rfl⟩
  obtain ⟨z, hz⟩ : ∃ z, z = errC C b := ⟨_, rfl⟩
  have HAK := Lib.hid (fun y (h : Ext W y) => (show Calls Tryz.prog 63 #[.agg #[.slice p C.meters.length c, .slice q C.extra.length d, .int .i64 C.frm, .int .i64 C.tto], .bool b] y (RetTb T z y) from by rw [hTT, hz]; exact rNumbers06 C b _ y (HV.out.ext (HE.out.trans h)) HS.out HT.out))
  have HTZ := Lib.hid (⟨hTT, hz⟩ : T = askT C b ∧ z = errC C b)
  clear hTT hz
  refine wp_region_facts 9 [[], [], [], [1, 2], [0, 3], [4], [5], [5], [6]] [8, 7] Ext (FL [Is (.agg #[.slice p C.meters.length c, .slice q C.extra.length d, .int .i64 C.frm, .int .i64 C.tto]), Is (.agg #[.slice p C.meters.length c, .slice q C.extra.length d, .int .i64 C.frm, .int .i64 C.tto]), Is (.int .i64 n), Is (.bool b), TabF T z W.heap.size, TabF T z W.heap.size, RowF T W.heap.size, Is (.int .i64 z), RowF T W.heap.size]) (by kernel_rfl) (by kernel_rfl) Ext.refl (fun _ _ _ => Ext.trans) (fun _ _ => Ext.size) (FL.mono ⟨Is.mono, Is.mono, Is.mono, Is.mono, TabF.mono, TabF.mono, RowF.mono, Is.mono, RowF.mono, trivial⟩) ⟨?_, ?_, ?_, ?_, ?_, ?_, ?_, ?_, ?_, trivial⟩ ?_
  · refine opF_step ?_
    intro ys l0 h0 w' hr hf K hK
    clear hf
    obtain ⟨j0, j1, j2, j3⟩ := HKC.out w' ((Ext.refl W).drew.trans hr)
    simp only [fill, Act.put, dstO, List.take_succ_cons, List.take_zero, List.setIfInBounds_toArray, List.set_cons_zero, List.set_cons_succ, List.getElem?_cons_zero, Nat.zero_add, Nat.reduceAdd] at hK ⊢
    refine OpB.mk' ?_
    go_simp
    exact hK.out _ _ rfl (Ext.refl _)
  · refine opF_step ?_
    intro ys l0 h0 w' hr hf K hK
    clear hf
    obtain ⟨j0, j1, j2, j3⟩ := HKC.out w' ((Ext.refl W).drew.trans hr)
    simp only [fill, Act.put, dstO, List.take_succ_cons, List.take_zero, List.setIfInBounds_toArray, List.set_cons_zero, List.set_cons_succ, List.getElem?_cons_zero, List.getElem?_cons_succ, Nat.zero_add, Nat.reduceAdd] at hK ⊢
    refine OpB.mk' ?_
    go_simp
    exact hK.out _ _ rfl (Ext.refl _)
  · refine opF_step ?_
    intro ys l0 h0 w' hr hf K hK
    clear hf
    simp only [fill, Act.put, dstO, List.take_succ_cons, List.take_zero, List.setIfInBounds_toArray, List.set_cons_zero, List.set_cons_succ, List.getElem?_cons_zero, List.getElem?_cons_succ, Nat.zero_add, Nat.reduceAdd] at hK ⊢
    refine OpB.mk' ?_
    go_simp
    exact hK.out _ _ rfl (Ext.refl _)
  · refine opF_step ?_
    intro ys l0 h0 w' hr hf K hK
    obtain ⟨f0, f1, -⟩ := hf
    have e0 : ys 1 = _ := f0
    have e1 : ys 2 = _ := f1
    simp only [fill, Act.put, dstO, List.take_succ_cons, List.take_zero, List.setIfInBounds_toArray, List.set_cons_zero, List.set_cons_succ, List.getElem?_cons_zero, List.getElem?_cons_succ, Nat.zero_add, Nat.reduceAdd] at hK ⊢
    simp only [e0, e1] at hK ⊢
    clear e0 e1 f0 f1
    refine OpB.mk' ?_
    go_simp
    refine (HIS.out w' ((Ext.refl W).drew.trans hr)).mono ?_
    rintro e w2 ⟨rfl, hE2⟩
    exact hK.out _ _ rfl hE2
  · refine opF_step ?_
    intro ys l0 h0 w' hr hf K hK
    obtain ⟨f0, f1, -⟩ := hf
    have e0 : ys 0 = _ := f0
    have e1 : ys 3 = _ := f1
    simp only [fill, Act.put, dstO, List.take_succ_cons, List.take_zero, List.setIfInBounds_toArray, List.set_cons_zero, List.set_cons_succ, List.getElem?_cons_zero, List.getElem?_cons_succ, Nat.zero_add, Nat.reduceAdd] at hK ⊢
    simp only [e0, e1] at hK ⊢
    clear e0 e1 f0 f1
    refine OpB.mk' ?_
    go_simp
    refine (HAK.out w' ((Ext.refl W).drew.trans hr)).mono ?_
    rintro e w2 ⟨u, vs, rfl, hR, hE2, hcp⟩
    exact hK.out _ _ ⟨u, vs, rfl, hR.base (Ext.size ((Ext.refl W).drew.trans hr)), hcp⟩ hE2
  · refine opF_step ?_
    intro ys l0 h0 w' hr hf K hK
    obtain ⟨f0, -⟩ := hf
    obtain ⟨u, vs, e0, hR, hcp⟩ := f0
    simp only [fill, Act.put, dstO, List.take_succ_cons, List.take_zero, List.setIfInBounds_toArray, List.set_cons_zero, List.set_cons_succ, List.getElem?_cons_zero, List.getElem?_cons_succ, Nat.zero_add, Nat.reduceAdd] at hK ⊢
    simp only [e0] at hK ⊢
    clear e0
    refine OpB.mk' ?_
    go_simp
    exact hK.out _ _ ⟨u, vs, rfl, hR, hcp⟩ (Ext.refl _)
  · refine opF_step ?_
    intro ys l0 h0 w' hr hf K hK
    obtain ⟨f0, -⟩ := hf
    obtain ⟨u, vs, e0, hR, hcp⟩ := f0
    simp only [fill, Act.put, dstO, List.take_succ_cons, List.take_zero, List.setIfInBounds_toArray, List.set_cons_zero, List.set_cons_succ, List.getElem?_cons_zero, List.getElem?_cons_succ, Nat.zero_add, Nat.reduceAdd] at hK ⊢
    simp only [e0] at hK ⊢
    clear e0
    refine OpB.mk' ?_
    go_simp
    exact hK.out _ _ ⟨vs, hR, hcp⟩ (Ext.refl _)
  · refine opF_step ?_
    intro ys l0 h0 w' hr hf K hK
    obtain ⟨f0, -⟩ := hf
    obtain ⟨u, vs, e0, hR, hcp⟩ := f0
    simp only [fill, Act.put, dstO, List.take_succ_cons, List.take_zero, List.setIfInBounds_toArray, List.set_cons_zero, List.set_cons_succ, List.getElem?_cons_zero, List.getElem?_cons_succ, Nat.zero_add, Nat.reduceAdd] at hK ⊢
    simp only [e0] at hK ⊢
    clear e0
    refine OpB.mk' ?_
    go_simp
    exact hK.out _ _ rfl (Ext.refl _)
  · refine opF_step ?_
    intro ys l0 h0 w' hr hf K hK
    obtain ⟨f0, -⟩ := hf
    simp only [fill, Act.put, dstO, List.take_succ_cons, List.take_zero, List.setIfInBounds_toArray, List.set_cons_zero, List.set_cons_succ, List.getElem?_cons_zero, List.getElem?_cons_succ, Nat.zero_add, Nat.reduceAdd] at hK ⊢
    refine OpB.mk' ?_
    go_simp
    exact hK.out _ _ f0 (Ext.refl _)
  intro ys l0 h0 w2 hr hf hsp
  obtain ⟨f8, f7, -⟩ := hf
  obtain ⟨vs, hR, hcp⟩ := f8
  have e7 : ys 7 = _ := f7
  simp only [fill, Act.put, List.take_succ_cons, List.take_zero, List.setIfInBounds_toArray, List.set_cons_zero, List.set_cons_succ, Nat.zero_add, Nat.reduceAdd, List.drop_succ_cons, List.drop_zero]
  rw [e7]
  clear e7 f7
  generalize ys 8 = u at hR ⊢
  clear hsp
  have hEW : Ext W w2 := (Ext.refl W).drew.trans hr
  have HR := Lib.hid hR
  have HCP := Lib.hid hcp
  have HEW := Lib.hid hEW
  obtain ⟨qt, ct, rfl, hLT⟩ := hR.lists
  have HLT := Lib.hid hLT
  clear hr hEW hR hcp hLT HAK
  have hok := askT_ok (C := C) b hY
  have HTP := Lib.hid (show Calls Tryz.prog 77 #[.slice qt T.length ct, .int .i64 n, .bool true] w2 (RetO1 (mayA C n) w2) from by
    have h := rtop06 T (by rw [HTZ.out.1]; exact hok.1) (by rw [HTZ.out.1]; exact hok.2) n true qt ct w2 HLT.out
    rw [show pickTo (tmF T n true) T.length = mayA C n from by rw [HTZ.out.1, HB.out]; exact top_true C n hY] at h
    exact h)
  have HZ := Lib.hid (show errF C n = z from by unfold errF; rw [← HB.out, HTZ.out.2])
  clear hok
  go_wp2_with (go_at_call 77; refine HTP.out.mono ?_; rintro e w3 ⟨u, rfl, hO3, hE3⟩)
  go_ret2
  exact ⟨u, by rw [HZ.out]; rfl, ownsRow_base hO3 (HE.out.trans HEW.out).size, HE.out.trans (HEW.out.trans hE3)⟩
end Go.Proofs.YtaoamnhchidjfaaGreatDoor
