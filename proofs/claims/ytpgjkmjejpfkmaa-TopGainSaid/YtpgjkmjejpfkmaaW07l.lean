/- The walk of Fewest. -/
import Derived.Test.YtpgjkmjejpfkmaaW07k
namespace Go.Proofs.Ytpgjkmjejpfkmaa
open Go.RowKit
attribute [local go_sem] Oper.semAt_some

noncomputable def fewStep (V : Visit) (goal : Int) (m : Int) (q : Nat → Nat) : Int :=
  if bP (goal ≤ sumTo V q V.S.boxes.length ∧ (m < 0 ∨ (allTo V q V.S.boxes.length : Int) < m)) = true then (allTo V q V.S.boxes.length : Int) else m
noncomputable def fewOf (V : Visit) (goal : Int) (L : List (Nat → Nat)) : Int := L.foldl (fewStep V goal) (-1)
theorem fewOf_snoc (V : Visit) (goal : Int) (L : List (Nat → Nat)) (q : Nat → Nat) : fewOf V goal (L ++ [q]) = fewStep V goal (fewOf V goal L) q := by simp [fewOf]
theorem fewOf_ge (V : Visit) (goal : Int) (L : List (Nat → Nat)) : -1 ≤ fewOf V goal L := by
  have : ∀ (L : List (Nat → Nat)) (m : Int), -1 ≤ m → -1 ≤ L.foldl (fewStep V goal) m := by
    intro L
    induction L with
    | nil => intro m h; exact h
    | cons q r ih =>
      intro m h
      refine ih _ ?_
      unfold fewStep
      split <;> omega
  exact this L (-1) (by omega)

/-- what Fewest returns -/
noncomputable def fewV (S : Swap) (goal : Int) : Value :=
  if bP (Valid S) = true then (if bP (0 ≤ goal ∧ goal ≤ 99999) = true then (if bP (fewOf (openV S) goal (allP (openV S)) < 0) = true then .tuple #[.int .i64 0, .int .i64 3] else .tuple #[.int .i64 (fewOf (openV S) goal (allP (openV S))), .int .i64 0]) else .tuple #[.int .i64 0, .int .i64 1]) else .tuple #[.int .i64 0, .int .i64 70]

theorem heap_new1 (w : World) (o1 o2 : Obj) : ((w.alloc o1).alloc o2).heap[w.heap.size]? = some o1 := by
  rw [Below.heap_alloc _ _ _ (by simp), heap_new]
theorem heap_new2 (w : World) (o1 o2 : Obj) : ((w.alloc o1).alloc o2).heap[w.heap.size + 1]? = some o2 :=
  (by simp : (w.alloc o1).heap.size = w.heap.size + 1) ▸ heap_new _ _

theorem noMarks_ret {P : Program} {fn : Func} {R : Ending → World → Prop} {tmps : Array Value} {W : World} {v : Value}
    (hr : (results fn tmps).run P W = .ok v W) (h : R (.returned v) W) : bodyPostM WF 0 P fn R .ret { tmps, defers := [] } W := ⟨v, hr, h⟩

set_option maxHeartbeats 1600000 in
theorem Fewest07 (v : Value) (S : Swap) (goal : Int) (w : World) (hv : SwapV w v S) (hM : Modest S) : Calls Try.prog 19 #[v, .int .i64 goal] w (RetE (fewV S goal) w) := by
  have hC := fun w' (h : Ext w w') => Check07 v S w' (SwapV.mono _ _ _ _ h hv) hM
  obtain ⟨p0, c0, p1, c1, p2, c2, p3, c3, rfl, h0, h1, h2, h3⟩ := id hv
  have HC := Lib.hid hC
  clear hC
  by_cases hS : Valid S
  · have HS := Lib.hid hS
    have HC2 := Lib.hid (fun w' h => (HC.out w' h).mono (R' := RetE (.int .i64 0) w') (fun e w'' hh => by rw [← chk_t hS]; exact hh))
    clear HC hS
    refine calls_of_marks Try.func19 rfl ?_
    simp only [Try.ntmps19, List.size_toArray, List.length_cons, List.length_nil, Nat.reduceAdd, Nat.reduceSub, Array.replicate_succ, Array.replicate_zero, List.push_toArray, List.append_toArray, List.nil_append, List.cons_append]
    go_upto_region 1 with (fail)
    have hn := heap_new1 w (.cells #[.slice p0 S.boxes.length c0, .slice p1 S.stock.length c1, .slice p2 S.earn.length c2, .slice p3 S.keeps.length c3, .int .i64 S.changes] 26) (.cells #[.int .i64 goal] 3)
    have hn2 := heap_new2 w (.cells #[.slice p0 S.boxes.length c0, .slice p1 S.stock.length c1, .slice p2 S.earn.length c2, .slice p3 S.keeps.length c3, .int .i64 S.changes] 26) (.cells #[.int .i64 goal] 3)
    obtain ⟨W, hW⟩ : ∃ W, W = (w.alloc (.cells #[.slice p0 S.boxes.length c0, .slice p1 S.stock.length c1, .slice p2 S.earn.length c2, .slice p3 S.keeps.length c3, .int .i64 S.changes] 26)).alloc (.cells #[.int .i64 goal] 3) := ⟨_, rfl⟩
    have hE : Ext w W := by rw [hW]; exact Ext.alloc (Ext.alloc (Ext.refl w) _) _
    rw [← hW] at hn hn2 ⊢
    have q0 := ExtW.cell (v := .slice p0 S.boxes.length c0) (cell_of_heap hn 0)
    have q1 := ExtW.cell (v := .slice p1 S.stock.length c1) (cell_of_heap hn 1)
    have q2 := ExtW.cell (v := .slice p2 S.earn.length c2) (cell_of_heap hn 2)
    have q3 := ExtW.cell (v := .slice p3 S.keeps.length c3) (cell_of_heap hn 3)
    have q4 := ExtW.cell (v := .int .i64 S.changes) (cell_of_heap hn 4)
    have qg := ExtW.cell (v := .int .i64 goal) (cell_of_heap hn2 0)
    obtain ⟨x0, hx0⟩ := ExtW.of (Ext.refl W)
    have HV := Lib.hid hv
    clear hW hn hn2 hv
    conv => arg 5; rw [hx0]
    go_wp2_with fail
    refine (ExtW.call (HC2.out _ (hE.trans x0.h))).mono ?_
    rintro e _ ⟨rfl, x1, rfl⟩
    by_cases hg : 0 ≤ goal ∧ goal ≤ 99999
    · have HG := Lib.hid hg
      have HGC := Lib.hid (RetS.bt hg (within07s goal 0 99999 x1.w))
      clear hg
      go_wp2_with (go_at_call 57; refine HGC.out.mono ?_; rintro e w' ⟨rfl, rfl⟩)
      refine (open07 _ S x1.w (SwapV.mono _ _ _ _ (hE.trans x1.h) HV.out) HS.out).mono ?_
      rintro e W2 ⟨b, rfl, hvis, hE2, -⟩
      go_wp2
      have hO := openV_ok HS.out
      obtain ⟨V, hV⟩ : ∃ V, V = openV S := ⟨_, rfl⟩
      rw [← hV] at hvis hO
      have hn1 := heap_new1 W2 (.cells #[.pointer (some ⟨b, 0, none⟩)] 80) (cellI (-1))
      have hn2 := heap_new2 W2 (.cells #[.pointer (some ⟨b, 0, none⟩)] 80) (cellI (-1))
      obtain ⟨W1, hW⟩ : ∃ W1, W1 = (W2.alloc (.cells #[.pointer (some ⟨b, 0, none⟩)] 80)).alloc (.cells #[.int .i64 (-1)] 3) := ⟨_, rfl⟩
      have hE1 : Ext W2 W1 := by rw [hW]; exact Ext.alloc (Ext.alloc (Ext.refl W2) _) _
      have hs1 : W1.heap.size = W2.heap.size + 2 := by rw [hW]; simp
      have hgc := hE2.cell (qg x1)
      unfold cellI at hn1 hn2
      rw [← hW] at hn1 hn2 ⊢
      have HVO := Lib.hid hV
      have hEW := hE.trans x1.h |>.trans hE2
      have hgb : w.heap.size + 1 < W2.heap.size := lt_of_cell hgc
      clear hW hV q0 q1 q2 q3 q4 hE2 hE qg HV HGC h0 h1 h2 h3
      obtain ⟨L, hL⟩ : ∃ L, L = allP V := ⟨_, rfl⟩
      refine range_all (fst := #[.pointer (some ⟨b, 0, none⟩)]) (gf := 55) (cap := #[]) rfl Try.call55 pl3 okP L W2.heap.size (by omega)
        (fun pre W => W.heap[W2.heap.size]? = some (.cells #[.pointer (some ⟨b, 0, none⟩)] 80) ∧ W.heap[W2.heap.size + 1]? = some (cellI (fewOf V goal pre)) ∧ Ext W2 W)
        ?hI ⟨hn1, hn2, hE1⟩ ?hiter ?hround ?hdone
      case hI =>
        rintro pre W W' ⟨h1, h2, h4⟩ hb
        exact ⟨(hb.block _ (by omega)).trans h1, (hb.block _ (by omega)).trans h2, Below.trans h4 (hb.mono (by omega))⟩
      case hiter =>
        intro l J hJ hY W hE hs hj
        rw [hL]
        exact each07 V hO b l W2.heap.size (W1.heap.size + 2) W2 hvis (Nat.le_refl _) J hJ hY W (hE1.trans hE) hs hj
      case hround =>
        rintro l pre x Wr hok rfl ⟨h1, h2, h4⟩ hs
        have hn := heap_new Wr (.cells #[.int .u64 (x 0), .int .u64 (x 1), .int .u64 (x 2)] 78)
        unfold pl3
        gi_wp2
        refine ⟨Ext.alloc (Ext.refl Wr) _, fun W4 hW4 => ?_⟩
        obtain ⟨W', hW'⟩ : ∃ W', W' = Wr.alloc (.cells #[.int .u64 (x 0), .int .u64 (x 1), .int .u64 (x 2)] 78) := ⟨_, rfl⟩
        have hEW' : Ext Wr W' := by rw [hW']; exact Ext.alloc (Ext.refl Wr) _
        rw [← hW'] at hn hW4
        have g1 := (hW4.block W2.heap.size (by omega)).trans ((Below.block hEW' _ (by omega)).trans h1)
        have g2 := (hW4.block (W2.heap.size + 1) (by omega)).trans ((Below.block hEW' _ (by omega)).trans h2)
        have g5 := (hW4.block Wr.heap.size (by omega)).trans hn
        have g4 : Ext W2 W4 := (h4.trans hEW').trans' (hW4.below (by omega))
        have hsz : Wr.heap.size < W4.heap.size := (Array.getElem?_eq_some_iff.1 g5).1
        clear hW' hn h1 h2 h4 hEW' hW4 hn1 hn2 hE1
        have hm1 := fewOf_ge V goal pre
        have hsn := fewOf_snoc V goal pre x
        obtain ⟨m, hm⟩ : ∃ m, m = fewOf V goal pre := ⟨_, rfl⟩
        rw [← hm] at g2 hm1 hsn
        have HM := Lib.hid hm
        clear hm
        have hc1 := cell_of_heap g1 0
        have hc50 := box3_cell (g := x) g5 0 (by decide)
        have hc51 := box3_cell (g := x) g5 1 (by decide)
        have hc52 := box3_cell (g := x) g5 2 (by decide)
        simp at hc1
        have hA := all07 x b V W4 (hvis.ext g4) hO hok
        have hSu := fun w' (h : Ext W4 w') => sum07 x b V w' (hvis.ext (g4.trans h)) hO hok
        have hal := allTo_le V x V.S.boxes.length
        unfold fewStep at hsn
        obtain ⟨n, hn⟩ : ∃ n, n = sumTo V x V.S.boxes.length := ⟨_, rfl⟩
        rw [← hn] at hSu hsn
        obtain ⟨k, hk⟩ : ∃ k, k = allTo V x V.S.boxes.length := ⟨_, rfl⟩
        rw [← hk] at hA hsn hal
        have HA := Lib.hid hA
        have HSU := Lib.hid hSu
        have HSN := Lib.hid hsn
        unfold pl3 at HA HSU
        clear hn hk hA hSu hsn
        gi_wp2_with fail
        refine ⟨trivial, rfl, ?_⟩
        refine (CallsIn.inRound _ (callsIn_wide.2 HA.out)).mono ?_
        rintro e W5 ⟨rfl, hE5⟩
        have r1 := ExtW.cell (hE5.cell hc1)
        have r50 := ExtW.cell (hE5.cell hc50)
        have r51 := ExtW.cell (hE5.cell hc51)
        have r52 := ExtW.cell (hE5.cell hc52)
        have rg := ExtW.cell ((g4.trans hE5).cell hgc)
        have k1 := (Below.block hE5 _ (by omega)).trans g1
        have k2 := (Below.block hE5 _ (by omega)).trans g2
        have rm := ExtW.cell (v := .int .i64 m) (cell_of_heap k2 0)
        have hs5 := hE5.size
        clear hc1 hc50 hc51 hc52 g5 g1 g2 hgc
        gi_wp2
        by_cases hG : goal ≤ n
        · have hG' : decide (goal ≤ n) = true := by simpa using hG
          by_cases hm0 : m < 0
          · have hm0' : decide (m < 0) = true := by simpa using hm0
            have HNEW := Lib.hid (HSN.out.trans (by rw [if_pos (bP_t ⟨hG, Or.inl hm0⟩)]))
            have HG2 := Lib.hid hG
            have HM2 := Lib.hid hm0
            clear hG hm0
            refine wpIn_region_round (w0 := W5) (x := ⟨W5, Ext.refl _⟩) (by kernel_rfl) (by kernel_rfl) (by kernel_rfl) ?_
            repeat (go_big_quiet_step ((go_at_call 59; exact ExtW.call (HSU.out _ (hE5.trans (ExtW.h _))))))
            refine wpQuiet_nil ?_
            rintro _ ⟨y1, rfl⟩
            have f2 := cell_frozen ((Below.block y1.h _ (by omega)).trans k2) 0
            gi_wp2
            refine and_dep ?_ (fun hx => ⟨?_, ?_, hx.ext g4 (Nat.le_refl _)⟩)
            · refine ExtI.set ((hE5.trans y1.h).toI _ _) (by omega) (by omega)
            · exact heap_set_ne (by omega) ((Below.block y1.h _ (by omega)).trans k1)
            · rw [HNEW.out]
              exact heap_set ((Below.block y1.h _ (by omega)).trans k2) rfl
          · have hm0' : decide (m < 0) = false := by simpa using hm0
            by_cases hkm : (k : Int) < m
            · have hkm' : decide ((k : Int) < m) = true := by simpa using hkm
              have HNEW := Lib.hid (HSN.out.trans (by rw [if_pos (bP_t ⟨hG, Or.inr hkm⟩)]))
              have HG2 := Lib.hid hG
              have HM2 := Lib.hid hm0
              have HK2 := Lib.hid hkm
              clear hG hm0 hkm
              refine wpIn_region_round (w0 := W5) (x := ⟨W5, Ext.refl _⟩) (by kernel_rfl) (by kernel_rfl) (by kernel_rfl) ?_
              repeat (go_big_quiet_step ((go_at_call 59; exact ExtW.call (HSU.out _ (hE5.trans (ExtW.h _))))))
              refine wpQuiet_nil ?_
              rintro _ ⟨y1, rfl⟩
              have f2 := cell_frozen ((Below.block y1.h _ (by omega)).trans k2) 0
              gi_wp2
              refine and_dep ?_ (fun hx => ⟨?_, ?_, hx.ext g4 (Nat.le_refl _)⟩)
              · refine ExtI.set ((hE5.trans y1.h).toI _ _) (by omega) (by omega)
              · exact heap_set_ne (by omega) ((Below.block y1.h _ (by omega)).trans k1)
              · rw [HNEW.out]
                exact heap_set ((Below.block y1.h _ (by omega)).trans k2) rfl
            · have hkm' : decide ((k : Int) < m) = false := by simpa using hkm
              have HNEW := Lib.hid (HSN.out.trans (by rw [if_neg (by rw [bP_f (fun h => h.2.elim hm0 hkm)]; simp)]))
              have HG2 := Lib.hid hG
              have HM2 := Lib.hid hm0
              have HK2 := Lib.hid hkm
              clear hG hm0 hkm
              refine wpIn_region_round (w0 := W5) (x := ⟨W5, Ext.refl _⟩) (by kernel_rfl) (by kernel_rfl) (by kernel_rfl) ?_
              repeat (go_big_quiet_step ((go_at_call 59; exact ExtW.call (HSU.out _ (hE5.trans (ExtW.h _))))))
              refine wpQuiet_nil ?_
              rintro _ ⟨y1, rfl⟩
              gi_wp2
              refine ⟨(hE5.trans y1.h).toI _ _, (Below.block y1.h _ (by omega)).trans k1, ?_, (g4.trans hE5).trans y1.h⟩
              rw [HNEW.out]
              exact (Below.block y1.h _ (by omega)).trans k2
        · have hG' : decide (goal ≤ n) = false := by simpa using hG
          have HNEW := Lib.hid (HSN.out.trans (by rw [if_neg (by rw [bP_f (fun h => hG h.1)]; simp)]))
          have HG2 := Lib.hid hG
          clear hG
          refine wpIn_region_round (w0 := W5) (x := ⟨W5, Ext.refl _⟩) (by kernel_rfl) (by kernel_rfl) (by kernel_rfl) ?_
          repeat (go_big_quiet_step ((go_at_call 59; exact ExtW.call (HSU.out _ (hE5.trans (ExtW.h _))))))
          refine wpQuiet_nil ?_
          rintro _ ⟨y1, rfl⟩
          gi_wp2
          refine ⟨(hE5.trans y1.h).toI _ _, (Below.block y1.h _ (by omega)).trans k1, ?_, (g4.trans hE5).trans y1.h⟩
          rw [HNEW.out]
          exact (Below.block y1.h _ (by omega)).trans k2
      case hdone =>
        rintro W ⟨h1, h2, h4⟩ hd
        obtain ⟨m, hm⟩ : ∃ m, m = fewOf V goal L := ⟨_, rfl⟩
        rw [← hm] at h2
        have HM := Lib.hid hm
        clear hm
        have hc2 := cell_of_heap h2 0
        simp at hc2
        by_cases hm0 : m < 0
        · have HFV := Lib.hid (show fewV S goal = .tuple #[.int .i64 0, .int .i64 3] from by
            simp only [fewV, bP_t HS.out, bP_t HG.out, ← HVO.out, ← hL, ← HM.out, bP_t hm0, if_true])
          go_wp2
          refine marks_ret (v := .tuple #[.int .i64 0, .int .i64 3]) (hs1 ▸ hd) (fun _ _ => results_tmp2 (t := 4) (u := 5) rfl _ _ _) (fun W' hW' => RetE.fin ((hEW.trans h4).trans' (hW'.below ?_)) HFV.out.symm)
          have := hEW.size
          omega
        · have HFV := Lib.hid (show fewV S goal = .tuple #[.int .i64 m, .int .i64 0] from by
            simp only [fewV, bP_t HS.out, bP_t HG.out, ← HVO.out, ← hL, ← HM.out, bP_f hm0, if_true]
            rfl)
          go_wp2
          refine marks_ret (v := .tuple #[.int .i64 m, .int .i64 0]) (hs1 ▸ hd) (fun _ _ => results_tmp2 (t := 4) (u := 5) rfl _ _ _) (fun W' hW' => RetE.fin ((hEW.trans h4).trans' (hW'.below ?_)) HFV.out.symm)
          have := hEW.size
          omega
    · have HFV := Lib.hid (show fewV S goal = .tuple #[.int .i64 0, .int .i64 1] from by simp [fewV, bP_t HS.out, bP_f hg])
      have HGC := Lib.hid (RetS.bf hg (within07s goal 0 99999 x1.w))
      clear hg
      go_wp2_with (go_at_call 57; refine HGC.out.mono ?_; rintro e w' ⟨rfl, rfl⟩)
      exact noMarks_ret (v := .tuple #[.int .i64 0, .int .i64 1]) (results_tmp2 (t := 4) (u := 5) rfl _ _ _) (RetE.fin (hE.trans x1.h) HFV.out.symm)
  · rw [show fewV S goal = .tuple #[.int .i64 0, .int .i64 70] from by simp [fewV, bP_f hS]]
    have HC2 := Lib.hid (fun w' h => (HC.out w' h).mono (R' := RetE (.int .i64 70) w') (fun e w'' hh => by rw [← chk_f hS]; exact hh))
    clear HC hS
    go_enter Try.func19, Try.ntmps19
    go_wp2_with fail
    refine (HC2.out _ (Ext.alloc (Ext.alloc (Ext.refl w) _) _)).mono ?_
    rintro e W2 ⟨rfl, hE2⟩
    go_wp2
    go_ret2
    exact RetE.fin ((Ext.alloc (Ext.alloc (Ext.refl w) _) _).trans hE2) rfl
end Go.Proofs.Ytpgjkmjejpfkmaa
