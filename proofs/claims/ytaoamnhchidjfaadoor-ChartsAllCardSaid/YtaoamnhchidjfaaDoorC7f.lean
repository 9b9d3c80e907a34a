
/- Charts: the walks of nth and Cut. -/
import Derived.Test.YtaoamnhchidjfaaDoorC7e
import Derived.Test.YtaoamnhchidjfaaDoorC7s
namespace Go.Proofs.YtaoamnhchidjfaaDoor
open Go.RowKit

set_option maxRecDepth 20000 in
set_option maxHeartbeats 3200000 in
theorem nthLo06 (T : Tab) (hG : TabG T) (k : Nat) (h1 : 1 ≤ k) (h2 : k ≤ T.length) (q : Option Addr) (c : Nat) (w : World) (hv : ListsAt w q T) :
    Calls Tryd.prog 38 #[.slice q T.length c, .func (.func 37) #[] #[], .int .i64 k] w (RetE (.int .i64 (cutN T.length (loT T) k)) w) := by
  have hn6 := hG.len
  have HV := Lib.hid (fun j (hj : j < T.length) y (h : Ext w y) => (low06 T hG.ok j hj q c y (hv.ext h) : Calls Tryd.prog 37 #[.slice q T.length c, .int .i64 j] y (RetE (.int .i64 (loT T j)) y)))
  have HCS := Lib.hid (fun (l : List Int) hs hp hl => cut_sorted (n := T.length) (x := loT T) (l := l) (k := k) hs hp h1 h2 hl)
  obtain ⟨x, hx⟩ : ∃ x : Nat → Int, x = loT T := ⟨_, rfl⟩
  rw [← hx] at HV HCS ⊢
  obtain ⟨n, hn⟩ : ∃ n, n = T.length := ⟨_, rfl⟩
  rw [← hn] at HV HCS hn6 h2 ⊢
  obtain ⟨i0, hi, hz0, hz1, hz2⟩ := info_parts info_a
  clear hv hG hx hn
  have h2' : (k : Int) ≤ (n : Int) := by omega
  go_enter Tryd.func38, Tryd.ntmps38
  go_wp2
  go_loopw [7, 11] (fun u i wr => ∃ j : Nat, j ≤ n ∧ i = .int .i64 j ∧ Ext w wr ∧ wr.ownsRow w.heap.size 3 1 u j (intVs ((List.range j).map x))) (fun _ i _ => n - (intOf i).toNat)
  case atStart => exact ⟨0, Nat.zero_le _, rfl, Ext.refl _, World.ownsRow_nil _ _ _ _⟩
  case round =>
    obtain ⟨j, hj, rfl, hE, hO⟩ := hrel
    have HE := Lib.hid hE
    have HO := Lib.hid hO
    clear hE hO
    by_cases hlt : j < n
    · have hlt' : (j : Int) < (n : Int) := by omega
      have HC := Lib.hid (HV.out j hlt wr HE.out)
      have HPN := Lib.hid (show (List.range (j + 1)).map x = (List.range j).map x ++ [x j] from by rw [List.range_succ, List.map_append]; rfl)
      obtain ⟨a, ha⟩ : ∃ a, a = x j := ⟨_, rfl⟩
      rw [← ha] at HC HPN
      clear ha
      go_wp2_with (first
        | (go_at_call 37; refine HC.out.mono ?_; rintro e w2 ⟨rfl, hE2⟩)
        | (at_builtin; refine wpList_append_lies _ rfl (.tmp 14) (.tmp 19) 23 rfl w.heap.size 3 i0 (.int .i64 0) 1 8 Tryd.underlying23 hi hz0 hz1 hz2 rfl (by decide) _ j _ rfl (ownsRow_ext HO.out (hE2.alloc _)) ⟨w2.heap.size, 0, none⟩ 1 1 [.int .i64 a] rfl rfl (hnewsE (Ext.refl _) rfl) (one_int _) (by decide) ?c3 ?c4 ?c5 (w2.heap.size + 1) (size_alloc _ _) ?_))
      case c3 => unfold maxLen; omega
      case c4 => omega
      case c5 => have := HE.out.size; have := hE2.size; first | omega | (rw [size_alloc]; omega)
      intro g4 cap4 w4 hown4 hgr4 hat4 hlt4
      have hE4 : Ext w w4 := Below.grown (HE.out.trans (hE2.alloc _)) hgr4 (HE.out.trans (hE2.alloc _)).size (fun i hi => (HO.out.lt i hi).1)
      have HO4 := Lib.hid hown4
      have HE4 := Lib.hid hE4
      clear hown4 hgr4 hat4 hlt4 hE4 hE2
      go_wp2
      go_roundw
      case rel => exact ⟨j + 1, by omega, by simp, HE4.out, by rw [HPN.out, intVs_snoc]; exact HO4.out⟩
      case measure => simp [intOf]; omega
    · obtain rfl : j = n := by omega
      have hge : ¬(j : Int) < (j : Int) := by omega
      obtain ⟨g, cg, rfl, -⟩ := ownsRow_at HO.out 0 (by omega)
      have HSO := Lib.hid (Sort_i w.heap.size g j cg ((List.range j).map x) (by simp) (by omega) wr HO.out)
      have hgB := (HO.out.lt g rfl).1
      have HGB := Lib.hid hgB
      clear hgB
      go_upto_region 8 with (go_at_call 36; refine HSO.out.mono ?_; rintro e w2 ⟨rfl, l', hp, hs, hU, hO2⟩)
      have hll : l'.length = j := by rw [hp.length_eq]; simp
      obtain ⟨m, hm⟩ : ∃ m, m = j - k := ⟨_, rfl⟩
      have hml : m < l'.length := by omega
      obtain ⟨hc, -⟩ := ownsRow_cell hO2 (i := m) hml
      have hcs := HCS.out l' hs hp (by omega)
      have e : l'[j - k]'(by omega) = l'[m] := by congr 1; omega
      rw [e] at hcs
      rw [hcs] at hc
      have hw : IntKind.i64.wrap ((j : Int) - (k : Int)) = (m : Int) := by rw [IntKind.wrap_i64]; omega
      have hm0 : (m : Int) < (j : Int) := by omega
      have HEE := Lib.hid (HE.out.ups hU HGB.out)
      clear hp hs hU hO2 hll hcs e hm hml HSO
      go_wp2
      go_ret
      exact RetE.fin HEE.out rfl

set_option maxRecDepth 20000 in
set_option maxHeartbeats 3200000 in
theorem nthHi06 (T : Tab) (hG : TabG T) (k : Nat) (h1 : 1 ≤ k) (h2 : k ≤ T.length) (q : Option Addr) (c : Nat) (w : World) (hv : ListsAt w q T) :
    Calls Tryd.prog 38 #[.slice q T.length c, .func (.func 35) #[] #[], .int .i64 k] w (RetE (.int .i64 (cutN T.length (hiT T) k)) w) := by
  have hn6 := hG.len
  have HV := Lib.hid (fun j (hj : j < T.length) y (h : Ext w y) => (high06 T hG.ok j hj hG.ls q c y (hv.ext h) : Calls Tryd.prog 35 #[.slice q T.length c, .int .i64 j] y (RetE (.int .i64 (hiT T j)) y)))
  have HCS := Lib.hid (fun (l : List Int) hs hp hl => cut_sorted (n := T.length) (x := hiT T) (l := l) (k := k) hs hp h1 h2 hl)
  obtain ⟨x, hx⟩ : ∃ x : Nat → Int, x = hiT T := ⟨_, rfl⟩
  rw [← hx] at HV HCS ⊢
  obtain ⟨n, hn⟩ : ∃ n, n = T.length := ⟨_, rfl⟩
  rw [← hn] at HV HCS hn6 h2 ⊢
  obtain ⟨i0, hi, hz0, hz1, hz2⟩ := info_parts info_a
  clear hv hG hx hn
  have h2' : (k : Int) ≤ (n : Int) := by omega
  go_enter Tryd.func38, Tryd.ntmps38
  go_wp2
  go_loopw [7, 11] (fun u i wr => ∃ j : Nat, j ≤ n ∧ i = .int .i64 j ∧ Ext w wr ∧ wr.ownsRow w.heap.size 3 1 u j (intVs ((List.range j).map x))) (fun _ i _ => n - (intOf i).toNat)
  case atStart => exact ⟨0, Nat.zero_le _, rfl, Ext.refl _, World.ownsRow_nil _ _ _ _⟩
  case round =>
    obtain ⟨j, hj, rfl, hE, hO⟩ := hrel
    have HE := Lib.hid hE
    have HO := Lib.hid hO
    clear hE hO
    by_cases hlt : j < n
    · have hlt' : (j : Int) < (n : Int) := by omega
      have HC := Lib.hid (HV.out j hlt wr HE.out)
      have HPN := Lib.hid (show (List.range (j + 1)).map x = (List.range j).map x ++ [x j] from by rw [List.range_succ, List.map_append]; rfl)
      obtain ⟨a, ha⟩ : ∃ a, a = x j := ⟨_, rfl⟩
      rw [← ha] at HC HPN
      clear ha
      go_wp2_with (first
        | (go_at_call 35; refine HC.out.mono ?_; rintro e w2 ⟨rfl, hE2⟩)
        | (at_builtin; refine wpList_append_lies _ rfl (.tmp 14) (.tmp 19) 23 rfl w.heap.size 3 i0 (.int .i64 0) 1 8 Tryd.underlying23 hi hz0 hz1 hz2 rfl (by decide) _ j _ rfl (ownsRow_ext HO.out (hE2.alloc _)) ⟨w2.heap.size, 0, none⟩ 1 1 [.int .i64 a] rfl rfl (hnewsE (Ext.refl _) rfl) (one_int _) (by decide) ?c3 ?c4 ?c5 (w2.heap.size + 1) (size_alloc _ _) ?_))
      case c3 => unfold maxLen; omega
      case c4 => omega
      case c5 => have := HE.out.size; have := hE2.size; first | omega | (rw [size_alloc]; omega)
      intro g4 cap4 w4 hown4 hgr4 hat4 hlt4
      have hE4 : Ext w w4 := Below.grown (HE.out.trans (hE2.alloc _)) hgr4 (HE.out.trans (hE2.alloc _)).size (fun i hi => (HO.out.lt i hi).1)
      have HO4 := Lib.hid hown4
      have HE4 := Lib.hid hE4
      clear hown4 hgr4 hat4 hlt4 hE4 hE2
      go_wp2
      go_roundw
      case rel => exact ⟨j + 1, by omega, by simp, HE4.out, by rw [HPN.out, intVs_snoc]; exact HO4.out⟩
      case measure => simp [intOf]; omega
    · obtain rfl : j = n := by omega
      have hge : ¬(j : Int) < (j : Int) := by omega
      obtain ⟨g, cg, rfl, -⟩ := ownsRow_at HO.out 0 (by omega)
      have HSO := Lib.hid (Sort_i w.heap.size g j cg ((List.range j).map x) (by simp) (by omega) wr HO.out)
      have hgB := (HO.out.lt g rfl).1
      have HGB := Lib.hid hgB
      clear hgB
      go_upto_region 8 with (go_at_call 36; refine HSO.out.mono ?_; rintro e w2 ⟨rfl, l', hp, hs, hU, hO2⟩)
      have hll : l'.length = j := by rw [hp.length_eq]; simp
      obtain ⟨m, hm⟩ : ∃ m, m = j - k := ⟨_, rfl⟩
      have hml : m < l'.length := by omega
      obtain ⟨hc, -⟩ := ownsRow_cell hO2 (i := m) hml
      have hcs := HCS.out l' hs hp (by omega)
      have e : l'[j - k]'(by omega) = l'[m] := by congr 1; omega
      rw [e] at hcs
      rw [hcs] at hc
      have hw : IntKind.i64.wrap ((j : Int) - (k : Int)) = (m : Int) := by rw [IntKind.wrap_i64]; omega
      have hm0 : (m : Int) < (j : Int) := by omega
      have HEE := Lib.hid (HE.out.ups hU HGB.out)
      clear hp hs hU hO2 hll hcs e hm hml HSO
      go_wp2
      go_ret
      exact RetE.fin HEE.out rfl

theorem cutEnd06 {w W : World} {s : Nat} {a : Act} {lo hi z lo' hi' z' : Int} {x y : Value} {t : TypeId} (hk : lo' = lo ∧ hi' = hi ∧ z' = z) (hE : Ext w W)
    (hm : W.heap[s]? = some (.cells #[x, y] t)) (hs : w.heap.size ≤ s) (ha : a.tmps[4]? = some (.pointer (some ⟨s, 0, none⟩))) (hb : a.tmps[5]? = some (.int .i64 z)) (hd : a.defers = []) :
    bodyPost Tryd.prog Tryd.f18 (RetSp lo' hi' z' w) .ret a ((W.setCell ⟨s, 0, none⟩ (.int .i64 lo)).setCell ⟨s, 1, none⟩ (.int .i64 hi)) := by
  have h := heap_pair (y0 := .int .i64 lo) (y1 := .int .i64 hi) hm
  have c0 := cell_of_heap h 0
  have c1 := cell_of_heap h 1
  simp at c0 c1
  refine bodyPost_ret (v := .tuple #[.agg #[.int .i64 lo, .int .i64 hi], .int .i64 z]) ?_ hd ⟨by rw [hk.1, hk.2.1, hk.2.2], Ext.setCell (Ext.setCell hE (p := ⟨s, 0, none⟩) hs _) (p := ⟨s, 1, none⟩) hs _⟩
  cases a with
  | mk tm df =>
    simp only at ha hb
    simp [results, Tryd.results18, go_sem, ha, hb, c0, c1]

noncomputable def cutLoA (C : Ch) (n : Int) : Int := okN (errF C n) (cutN (tabC C).length (loT (tabC C)) n)
noncomputable def cutHiA (C : Ch) (n : Int) : Int := okN (errF C n) (cutN (tabC C).length (hiT (tabC C)) n)
set_option maxRecDepth 20000 in
set_option maxHeartbeats 3200000 in
theorem Cut06 (C : Ch) (n : Int) (v : Value) (w : World) (hv : ChV w v C) (hs : ChSm C) (hT : TabW w) (hwf : (Lit.int .i64 n).wf = true) :
    Calls Tryd.prog 18 #[v, .int .i64 n] w (RetSp (cutLoA C n) (cutHiA C n) (errF C n) w) := by
  have HV := Lib.hid hv
  have HS := Lib.hid hs
  have HT := Lib.hid hT
  obtain ⟨p, c, q, d, rfl, hp, hq⟩ := hv
  clear hp hq hT hs
  go_enter Tryd.func18, Tryd.ntmps18
  go_upto_region 1 with (fail)
  obtain ⟨s0, hs0⟩ : ∃ s0, s0 = w.heap.size := ⟨_, rfl⟩
  obtain ⟨W, hW⟩ : ∃ W, W = (w.alloc (.cells #[.slice p C.meters.length c, .slice q C.extra.length d, .int .i64 C.frm, .int .i64 C.tto] 25)).alloc (.cells #[.int .i64 0, .int .i64 0] 32) := ⟨_, rfl⟩
  have m0 : W.heap[s0]? = some (.cells #[.slice p C.meters.length c, .slice q C.extra.length d, .int .i64 C.frm, .int .i64 C.tto] 25) := by rw [hs0, hW, Below.heap_alloc _ _ _ (by rw [size_alloc]; omega)]; exact heap_new _ _
  have m1 : W.heap[s0 + 1]? = some (.cells #[.int .i64 0, .int .i64 0] 32) := by rw [hs0, hW]; exact heap_new2 _ _ _
  have HM1 := Lib.hid m1
  have HSZ := Lib.hid (show w.heap.size ≤ s0 + 1 from by omega)
  have hE : Ext w W := by rw [hW]; exact Ext.alloc (Ext.alloc (Ext.refl _) _) _
  rw [← hs0, ← hW]
  have HKC := Lib.hid (fun y (h : Ext W y) => (⟨h.cell (cell_of_heap m0 0), h.cell (cell_of_heap m0 1), h.cell (cell_of_heap m0 2), h.cell (cell_of_heap m0 3)⟩ :
    y.cell? ⟨s0, 0, none⟩ = some (.slice p C.meters.length c) ∧ y.cell? ⟨s0, 1, none⟩ = some (.slice q C.extra.length d) ∧ y.cell? ⟨s0, 2, none⟩ = some (.int .i64 C.frm) ∧ y.cell? ⟨s0, 3, none⟩ = some (.int .i64 C.tto)))
  have HE := Lib.hid hE
  have HVW := Lib.hid (fun y (h : Ext W y) => HV.out.ext (HE.out.trans h))
  obtain ⟨b, hb⟩ : ∃ b, b = isFB C n := ⟨_, rfl⟩
  have HIS := Lib.hid (fun y (h : Ext W y) => (show Calls Tryd.prog 34 #[.agg #[.slice p C.meters.length c, .slice q C.extra.length d, .int .i64 C.frm, .int .i64 C.tto], .int .i64 n] y (RetE (.bool b) y) from by rw [hb]; exact isFirst06 C n _ y (HVW.out y h) hwf (by have := HS.out.nm; omega)))
  have HB := Lib.hid hb
  clear hb hwf
  clear hW m0 m1 hE hs0
  obtain ⟨T, hTT⟩ : ∃ T, T = askT C b := ⟨_, rfl⟩
  obtain ⟨z, hz⟩ : ∃ z, z = errC C b := ⟨_, rfl⟩
  have HAK := Lib.hid (fun y (h : Ext W y) => (show Calls Tryd.prog 27 #[.agg #[.slice p C.meters.length c, .slice q C.extra.length d, .int .i64 C.frm, .int .i64 C.tto], .bool b] y (RetTb T z y) from by rw [hTT, hz]; exact ask06 C b _ y (HV.out.ext (HE.out.trans h)) HS.out (HT.out.ext (HE.out.trans h))))
  have HTZ := Lib.hid (⟨hTT, hz⟩ : T = askT C b ∧ z = errC C b)
  clear hTT hz
  refine wp_region_facts 9 [[], [], [], [1, 2], [0, 3], [4], [5], [5], [6]] [8, 7] Ext (FL [Is (.agg #[.slice p C.meters.length c, .slice q C.extra.length d, .int .i64 C.frm, .int .i64 C.tto]), Is (.agg #[.slice p C.meters.length c, .slice q C.extra.length d, .int .i64 C.frm, .int .i64 C.tto]), Is (.int .i64 n), Is (.bool b), TabF T z W.heap.size, TabF T z W.heap.size, RowF T W.heap.size, Is (.int .i64 z), RowF T W.heap.size]) (by kernel_rfl) (by kernel_rfl) Ext.refl (fun _ _ _ => Ext.trans) (fun _ _ => Ext.size) (FL.mono ⟨Is.mono, Is.mono, Is.mono, Is.mono, TabF.mono, TabF.mono, RowF.mono, Is.mono, RowF.mono, trivial⟩) ⟨?_, ?_, ?_, ?_, ?_, ?_, ?_, ?_, ?_, trivial⟩ ?_
  · refine opF_step ?_
    intro ys l0 h0 w' hr hf K hK
    clear hf
    obtain ⟨j0, j1, j2, j3⟩ := HKC.out w' ((Ext.refl W).drew.trans hr)
    simp only [fill, Act.put, dstO, List.take_succ_cons, List.take_zero, List.setIfInBounds_toArray, List.set_cons_zero, List.set_cons_succ, List.getElem?_cons_zero, Nat.zero_add, Nat.reduceAdd] at hK ⊢
    refine OpB.mk' ?_
    go_simp
    exact hK.out _ _ rfl (Ext.refl _)
  · refine opF_step ?_
    intro ys l0 h0 w' hr hf K hK
    clear hf
    obtain ⟨j0, j1, j2, j3⟩ := HKC.out w' ((Ext.refl W).drew.trans hr)
    simp only [fill, Act.put, dstO, List.take_succ_cons, List.take_zero, List.setIfInBounds_toArray, List.set_cons_zero, List.set_cons_succ, List.getElem?_cons_zero, List.getElem?_cons_succ, Nat.zero_add, Nat.reduceAdd] at hK ⊢
    refine OpB.mk' ?_
    go_simp
    exact hK.out _ _ rfl (Ext.refl _)
  · refine opF_step ?_
    intro ys l0 h0 w' hr hf K hK
    clear hf
    simp only [fill, Act.put, dstO, List.take_succ_cons, List.take_zero, List.setIfInBounds_toArray, List.set_cons_zero, List.set_cons_succ, List.getElem?_cons_zero, List.getElem?_cons_succ, Nat.zero_add, Nat.reduceAdd] at hK ⊢
    refine OpB.mk' ?_
    go_simp
    exact hK.out _ _ rfl (Ext.refl _)
  · refine opF_step ?_
    intro ys l0 h0 w' hr hf K hK
    obtain ⟨f0, f1, -⟩ := hf
    have e0 : ys 1 = _ := f0
    have e1 : ys 2 = _ := f1
    simp only [fill, Act.put, dstO, List.take_succ_cons, List.take_zero, List.setIfInBounds_toArray, List.set_cons_zero, List.set_cons_succ, List.getElem?_cons_zero, List.getElem?_cons_succ, Nat.zero_add, Nat.reduceAdd] at hK ⊢
    simp only [e0, e1] at hK ⊢
    clear e0 e1 f0 f1
    refine OpB.mk' ?_
    go_simp
    refine (HIS.out w' ((Ext.refl W).drew.trans hr)).mono ?_
    rintro e w2 ⟨rfl, hE2⟩
    exact hK.out _ _ rfl hE2
  · refine opF_step ?_
    intro ys l0 h0 w' hr hf K hK
    obtain ⟨f0, f1, -⟩ := hf
    have e0 : ys 0 = _ := f0
    have e1 : ys 3 = _ := f1
    simp only [fill, Act.put, dstO, List.take_succ_cons, List.take_zero, List.setIfInBounds_toArray, List.set_cons_zero, List.set_cons_succ, List.getElem?_cons_zero, List.getElem?_cons_succ, Nat.zero_add, Nat.reduceAdd] at hK ⊢
    simp only [e0, e1] at hK ⊢
    clear e0 e1 f0 f1
    refine OpB.mk' ?_
    go_simp
    refine (HAK.out w' ((Ext.refl W).drew.trans hr)).mono ?_
    rintro e w2 ⟨u, vs, rfl, hR, hE2, hcp⟩
    exact hK.out _ _ ⟨u, vs, rfl, hR.base (Ext.size ((Ext.refl W).drew.trans hr)), hcp⟩ hE2
  · refine opF_step ?_
    intro ys l0 h0 w' hr hf K hK
    obtain ⟨f0, -⟩ := hf
    obtain ⟨u, vs, e0, hR, hcp⟩ := f0
    simp only [fill, Act.put, dstO, List.take_succ_cons, List.take_zero, List.setIfInBounds_toArray, List.set_cons_zero, List.set_cons_succ, List.getElem?_cons_zero, List.getElem?_cons_succ, Nat.zero_add, Nat.reduceAdd] at hK ⊢
    simp only [e0] at hK ⊢
    clear e0
    refine OpB.mk' ?_
    go_simp
    exact hK.out _ _ ⟨u, vs, rfl, hR, hcp⟩ (Ext.refl _)
  · refine opF_step ?_
    intro ys l0 h0 w' hr hf K hK
    obtain ⟨f0, -⟩ := hf
    obtain ⟨u, vs, e0, hR, hcp⟩ := f0
    simp only [fill, Act.put, dstO, List.take_succ_cons, List.take_zero, List.setIfInBounds_toArray, List.set_cons_zero, List.set_cons_succ, List.getElem?_cons_zero, List.getElem?_cons_succ, Nat.zero_add, Nat.reduceAdd] at hK ⊢
    simp only [e0] at hK ⊢
    clear e0
    refine OpB.mk' ?_
    go_simp
    exact hK.out _ _ ⟨vs, hR, hcp⟩ (Ext.refl _)
  · refine opF_step ?_
    intro ys l0 h0 w' hr hf K hK
    obtain ⟨f0, -⟩ := hf
    obtain ⟨u, vs, e0, hR, hcp⟩ := f0
    simp only [fill, Act.put, dstO, List.take_succ_cons, List.take_zero, List.setIfInBounds_toArray, List.set_cons_zero, List.set_cons_succ, List.getElem?_cons_zero, List.getElem?_cons_succ, Nat.zero_add, Nat.reduceAdd] at hK ⊢
    simp only [e0] at hK ⊢
    clear e0
    refine OpB.mk' ?_
    go_simp
    exact hK.out _ _ rfl (Ext.refl _)
  · refine opF_step ?_
    intro ys l0 h0 w' hr hf K hK
    obtain ⟨f0, -⟩ := hf
    simp only [fill, Act.put, dstO, List.take_succ_cons, List.take_zero, List.setIfInBounds_toArray, List.set_cons_zero, List.set_cons_succ, List.getElem?_cons_zero, List.getElem?_cons_succ, Nat.zero_add, Nat.reduceAdd] at hK ⊢
    refine OpB.mk' ?_
    go_simp
    exact hK.out _ _ f0 (Ext.refl _)
  intro ys l0 h0 w2 hr hf hsp
  obtain ⟨f8, f7, -⟩ := hf
  obtain ⟨vs, hR, hcp⟩ := f8
  have e7 : ys 7 = _ := f7
  simp only [fill, Act.put, List.take_succ_cons, List.take_zero, List.setIfInBounds_toArray, List.set_cons_zero, List.set_cons_succ, Nat.zero_add, Nat.reduceAdd, List.drop_succ_cons, List.drop_zero]
  rw [e7]
  clear e7 f7
  generalize ys 8 = u at hR ⊢
  clear hsp
  have hEW : Ext W w2 := (Ext.refl W).drew.trans hr
  have HR := Lib.hid hR
  have HCP := Lib.hid hcp
  have HEW := Lib.hid hEW
  obtain ⟨qt, ct, rfl, hLT⟩ := hR.lists
  have HLT := Lib.hid hLT
  clear hr hEW hR hcp hLT HAK
  by_cases hz0 : z = 0
  case neg =>
    have hg : (z == 0) = false := by simpa using hz0
    have HZ := Lib.hid (show errF C n = z from by unfold errF; rw [← HB.out, HTZ.out.2])
    have HNA := Lib.hid (show cutLoA C n = 0 ∧ cutHiA C n = 0 from ⟨by unfold cutLoA; rw [HZ.out, okN_ne hz0], by unfold cutHiA; rw [HZ.out, okN_ne hz0]⟩)
    clear hz0
    have hm := heap_ext3 HM1.out HEW.out
    have d0 := cell_of_heap hm 0
    have d1 := cell_of_heap hm 1
    have g0 := cell_frozen hm 0
    have g1 := cell_frozen hm 1
    have HMW := Lib.hid hm
    clear hm
    go_wp2
    refine cutEnd06 ⟨HNA.out.1, HNA.out.2, HZ.out⟩ (HE.out.trans HEW.out) HMW.out HSZ.out ?_ ?_ ?_ <;> rfl
  subst hz0
  obtain ⟨hC, hbt, hso⟩ := errC_0 HTZ.out.2.symm
  have hTC : T = tabC C := by rw [HTZ.out.1, askT_0 HTZ.out.2.symm]
  have htl : T.length = C.meters.length := by rw [hTC, tabC_len]
  obtain ⟨h0, h1⟩ := isFB_iff.1 (HB.out.symm.trans hbt)
  obtain ⟨i, rfl⟩ : ∃ i : Nat, n = i := ⟨n.toNat, by omega⟩
  have hG : TabG T := by rw [hTC]; exact tabC_ok hC hso
  have HZ := Lib.hid (show errF C i = 0 from by unfold errF; rw [← HB.out, ← HTZ.out.2])
  have HNA := Lib.hid (show cutLoA C i = cutN T.length (loT T) i ∧ cutHiA C i = cutN T.length (hiT T) i from ⟨by unfold cutLoA; rw [HZ.out, okN_0 rfl, hTC], by unfold cutHiA; rw [HZ.out, okN_0 rfl, hTC]⟩)
  have HL1 := Lib.hid (fun y (h : Ext w2 y) => nthLo06 T hG i (by omega) (by omega) qt ct y (HLT.out.ext h))
  have HL2 := Lib.hid (fun y (h : Ext w2 y) => nthHi06 T hG i (by omega) (by omega) qt ct y (HLT.out.ext h))
  obtain ⟨x1, hx1⟩ : ∃ x, x = cutN T.length (loT T) i := ⟨_, rfl⟩
  obtain ⟨x2, hx2⟩ : ∃ x, x = cutN T.length (hiT T) i := ⟨_, rfl⟩
  rw [← hx1] at HL1 HNA
  rw [← hx2] at HL2 HNA
  clear hC hbt hso hTC htl h0 h1 hG hx1 hx2
  go_wp2_with (first
    | (go_at_call 38; refine (HL2.out _ hE3).mono ?_; rintro e w4 ⟨rfl, hE4⟩; have hm := heap_ext3 HM1.out (HEW.out.trans (hE3.trans hE4)); have d0 := cell_of_heap hm 0; have d1 := cell_of_heap hm 1; have g0 := cell_frozen hm 0; have g1 := cell_frozen hm 1)
    | (go_at_call 38; refine (HL1.out _ (Ext.refl _)).mono ?_; rintro e w3 ⟨rfl, hE3⟩))
  refine cutEnd06 ⟨HNA.out.1, HNA.out.2, HZ.out⟩ (HE.out.trans (HEW.out.trans (hE3.trans hE4))) hm HSZ.out ?_ ?_ ?_ <;> rfl
end Go.Proofs.YtaoamnhchidjfaaDoor
