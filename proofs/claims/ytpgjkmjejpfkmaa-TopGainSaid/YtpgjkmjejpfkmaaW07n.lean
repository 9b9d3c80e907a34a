/- The walks of gain, Copy and Change. -/
import Derived.Test.YtpgjkmjejpfkmaaW07l
namespace Go.Proofs.Ytpgjkmjejpfkmaa
open Go.RowKit

theorem bestOf_bd {V : Visit} (hO : VOK V) (L : List (Nat → Nat)) : -1 ≤ (bestOf V L).1 ∧ (bestOf V L).1 ≤ 17982 := by
  have : ∀ (L : List (Nat → Nat)) (m : Int × (Nat → Nat)), (-1 ≤ m.1 ∧ m.1 ≤ 17982) → -1 ≤ (L.foldl (bestStep V) m).1 ∧ (L.foldl (bestStep V) m).1 ≤ 17982 := by
    intro L
    induction L with
    | nil => intro m h; exact h
    | cons q r ih =>
      intro m h
      refine ih _ ?_
      unfold bestStep
      have := sumTo_bd hO q V.S.boxes.length
      have := hO.boxes
      split
      · simp only; omega
      · exact h
  exact this L _ (by simp)

/-- a function that changes a visit at work -/
def Turns (g : Nat) (cap : Array Value) (w : World) (V V' : Visit) : Prop :=
  (∀ args w, (callFunc g args).run Try.prog w = .ok (.enter g args) w) ∧ ∀ w' b, Ext w w' → w.heap.size ≤ b → VisitAt w' b V →
    Calls Try.prog g (#[.pointer (some ⟨b, 0, none⟩)] ++ cap) w' fun e w'' => (∃ v, e = .returned v) ∧ VisitAt w'' b V' ∧ Ext w w''

set_option maxHeartbeats 800000 in
theorem gain07 (v : Value) (S : Swap) (g : Nat) (cap : Array Value) (V' : Visit) (w : World) (hv : SwapV w v S) (hS : Valid S) (hO' : VOK V') (hT : Turns g cap w (openV S) V') :
    Calls Try.prog 63 #[v, .func (.func g) #[] cap] w (RetE (.int .i64 (bestN V' - bestN (openV S))) w) := by
  obtain ⟨p0, c0, p1, c1, p2, c2, p3, c3, rfl, h0, h1, h2, h3⟩ := id hv
  obtain ⟨hcall, hT⟩ := hT
  have HT := Lib.hid hT
  have hO := openV_ok hS
  have HS := Lib.hid hS
  have HV := Lib.hid hv
  clear hT hv h0 h1 h2 h3
  go_enter Try.func63, Try.ntmps63
  go_wp2_with fail
  refine (open07 _ S _ (SwapV.mono _ _ _ _ (Ext.alloc (Ext.refl w) _) HV.out) HS.out).mono ?_
  rintro e W2 ⟨b, rfl, hvis, hE2, hbs⟩
  simp only [World.size_alloc] at hbs
  have hEW := (Ext.alloc (Ext.refl w) _).trans hE2
  go_wp2_with fail
  have hB := best07 (openV S) hO b W2 hvis
  have hbd := bestOf_bd hO (plansL (openV S) (openV S).S.boxes.length (fun _ => 0) 0)
  obtain ⟨mp, hmp⟩ : ∃ mp, mp = bestOf (openV S) (plansL (openV S) (openV S).S.boxes.length (fun _ => 0) 0) := ⟨_, rfl⟩
  rw [← hmp] at hB hbd
  unfold pl3 at hB
  have HMP := Lib.hid hmp
  clear hmp
  refine hB.mono ?_
  rintro e W3 ⟨rfl, hE3⟩
  clear hB
  obtain ⟨mb1, mb2⟩ := hbd
  have hvis3 := hvis.ext hE3
  have hEW3 := hEW.trans hE3
  go_wp2_with fail
  refine (HT.out _ b (Ext.alloc hEW3 _) (by omega) (VisitAt.ext hvis3 (Ext.alloc (Ext.refl _) _))).mono ?_
  rintro e W4 ⟨⟨v, rfl⟩, hvis4, hE4⟩
  go_wp2_with fail
  have hB := best07 V' hO' b W4 hvis4
  have hbd := bestOf_bd hO' (plansL V' V'.S.boxes.length (fun _ => 0) 0)
  obtain ⟨mp', hmp⟩ : ∃ mp, mp = bestOf V' (plansL V' V'.S.boxes.length (fun _ => 0) 0) := ⟨_, rfl⟩
  rw [← hmp] at hB hbd
  unfold pl3 at hB
  have HMP' := Lib.hid hmp
  clear hmp
  obtain ⟨mc1, mc2⟩ := hbd
  refine hB.mono ?_
  rintro e W5 ⟨rfl, hE5⟩
  clear hB
  go_wp2
  go_ret
  refine RetE.fin ?_ (by rw [HMP.out, HMP'.out]; rfl)
  repeat (with_reducible (first | refine Ext.drew ?_ | refine Ext.alloc ?_ _ | exact hE4.trans hE5))

/-- one more copy of a title -/
def moreCopies (V : Visit) (t : Nat) : Visit := { V with copies := updI V.copies t (V.copies t + 1) }
theorem moreCopies_ok {V : Visit} (hO : VOK V) (t : Nat) (h : V.copies t ≤ 98) (h0 : 0 ≤ V.copies t) : VOK (moreCopies V t) := by
  refine ⟨hO.boxes, hO.stock, hO.earn, hO.row, hO.cell, hO.ch, hO.now, hO.keeps, fun k hk => ?_, hO.titles⟩
  show 0 ≤ updI V.copies t (V.copies t + 1) k ∧ updI V.copies t (V.copies t + 1) k ≤ 99
  unfold updI
  split
  · omega
  · exact hO.copies k hk

set_option maxHeartbeats 800000 in
theorem CopyFn07 (V : Visit) (t b B : Nat) (w : World) (hV : VisitAt w b V) (hO : VOK V) (ht : t < 6) (hB : w.cell? ⟨B, 0, none⟩ = some (.int .i64 t)) :
    Calls Try.prog 64 #[.pointer (some ⟨b, 0, none⟩), .pointer (some ⟨B, 0, none⟩)] w fun e w' => (∃ v, e = .returned v) ∧ VisitAt w' b (moreCopies V t) ∧ ∀ a, Ext a w → a.heap.size ≤ b → Ext a w' := by
  obtain ⟨w0, p0, c0, p1, c1, p2, c2, p3, c3, hE0, hb0, hvb, h0, h1, h2, h3⟩ := hV
  have hc := (cell_of_heap hvb (11 + t)).trans (visit_copies_cell p0 c0 p1 c1 p2 c2 p3 c3 V.S V.now V.keeps V.copies t ht)
  have hf := cell_frozen hvb (11 + t)
  obtain ⟨k1, k2⟩ := hO.copies t ht
  have HV := Lib.hid hvb
  clear hvb
  go_enter Try.func64, Try.ntmps64
  go_region
  all_goals
    go_wp2
    go_end0
    refine ⟨⟨_, rfl⟩, ⟨w0, p0, c0, p1, c1, p2, c2, p3, c3, ?_, hb0, ?_, h0, h1, h2, h3⟩, fun a ha hab => ?_⟩
    · repeat (with_reducible (first | refine Ext.drew ?_ | refine Ext.set ?_ hb0 | exact hE0))
    · unfold moreCopies
      rw [visit_set_copies _ _ _ _ _ _ _ _ _ _ _ _ _ _ ht]
      repeat (with_reducible (first | refine heap_drew ?_ | apply heap_set | exact HV.out))
      all_goals rfl
    · repeat (with_reducible (first | refine Ext.drew ?_ | refine Ext.set ?_ hab | exact ha))

/-- one more change of each box -/
def moreChanges (V : Visit) : Visit := { V with S := { V.S with changes := V.S.changes + 1 } }
theorem moreChanges_ok {V : Visit} (hO : VOK V) (h : V.S.changes ≤ 8) : VOK (moreChanges V) := by
  have := hO.ch
  exact ⟨hO.boxes, hO.stock, hO.earn, hO.row, hO.cell, ⟨by show 0 ≤ V.S.changes + 1; omega, by show V.S.changes + 1 ≤ 9; omega⟩, hO.now, hO.keeps, hO.copies, hO.titles⟩

set_option maxHeartbeats 800000 in
theorem ChangeFn07 (V : Visit) (b : Nat) (w : World) (hV : VisitAt w b V) (hO : VOK V) :
    Calls Try.prog 66 #[.pointer (some ⟨b, 0, none⟩)] w fun e w' => (∃ v, e = .returned v) ∧ VisitAt w' b (moreChanges V) ∧ ∀ a, Ext a w → a.heap.size ≤ b → Ext a w' := by
  obtain ⟨w0, p0, c0, p1, c1, p2, c2, p3, c3, hE0, hb0, hvb, h0, h1, h2, h3⟩ := hV
  have hc : w.cell? ⟨b, 4, none⟩ = some (.int .i64 V.S.changes) := cell_of_heap hvb 4
  have hf := cell_frozen hvb 4
  obtain ⟨k1, k2⟩ := hO.ch
  have HV := Lib.hid hvb
  clear hvb
  go_enter Try.func66, Try.ntmps66
  go_wp2
  go_end0
  refine ⟨⟨_, rfl⟩, ⟨w0, p0, c0, p1, c1, p2, c2, p3, c3, ?_, hb0, ?_, h0, h1, h2, h3⟩, fun a ha hab => ?_⟩
  · repeat (with_reducible (first | refine Ext.drew ?_ | refine Ext.set ?_ hb0 | exact hE0))
  · exact heap_set HV.out rfl
  · repeat (with_reducible (first | refine Ext.drew ?_ | refine Ext.set ?_ hab | exact ha))

/-- what Copy returns -/
noncomputable def copyV (S : Swap) (title : Int) : Value :=
  if bP (Valid S) = true then (if bP (0 ≤ title ∧ title ≤ (S.stock.length : Int) - 1) = true then .tuple #[.int .i64 (bestN (moreCopies (openV S) title.toNat) - bestN (openV S)), .int .i64 0] else .tuple #[.int .i64 0, .int .i64 1]) else .tuple #[.int .i64 0, .int .i64 70]

set_option maxHeartbeats 1600000 in
theorem Copy07 (v : Value) (S : Swap) (title : Int) (w : World) (hv : SwapV w v S) (hM : Modest S) : Calls Try.prog 24 #[v, .int .i64 title] w (RetE (copyV S title) w) := by
  have hC := fun w' (h : Ext w w') => Check07 v S w' (SwapV.mono _ _ _ _ h hv) hM
  obtain ⟨p0, c0, p1, c1, p2, c2, p3, c3, rfl, h0, h1, h2, h3⟩ := id hv
  have HC := Lib.hid hC
  clear hC
  by_cases hS : Valid S
  · have HS := Lib.hid hS
    have HC2 := Lib.hid (fun w' h => (HC.out w' h).mono (R' := RetE (.int .i64 0) w') (fun e w'' hh => by rw [← chk_t hS]; exact hh))
    have hst := hS.stock
    clear HC hS
    go_enter Try.func24, Try.ntmps24
    go_upto_region 1 with (fail)
    have hn := heap_new1 w (.cells #[.slice p0 S.boxes.length c0, .slice p1 S.stock.length c1, .slice p2 S.earn.length c2, .slice p3 S.keeps.length c3, .int .i64 S.changes] 26) (.cells #[.int .i64 title] 3)
    have hn2 := heap_new2 w (.cells #[.slice p0 S.boxes.length c0, .slice p1 S.stock.length c1, .slice p2 S.earn.length c2, .slice p3 S.keeps.length c3, .int .i64 S.changes] 26) (.cells #[.int .i64 title] 3)
    obtain ⟨W, hW⟩ : ∃ W, W = (w.alloc (.cells #[.slice p0 S.boxes.length c0, .slice p1 S.stock.length c1, .slice p2 S.earn.length c2, .slice p3 S.keeps.length c3, .int .i64 S.changes] 26)).alloc (.cells #[.int .i64 title] 3) := ⟨_, rfl⟩
    have hE : Ext w W := by rw [hW]; exact Ext.alloc (Ext.alloc (Ext.refl w) _) _
    rw [← hW] at hn hn2 ⊢
    have q0 := ExtW.cell (v := .slice p0 S.boxes.length c0) (cell_of_heap hn 0)
    have q1 := ExtW.cell (v := .slice p1 S.stock.length c1) (cell_of_heap hn 1)
    have q2 := ExtW.cell (v := .slice p2 S.earn.length c2) (cell_of_heap hn 2)
    have q3 := ExtW.cell (v := .slice p3 S.keeps.length c3) (cell_of_heap hn 3)
    have q4 := ExtW.cell (v := .int .i64 S.changes) (cell_of_heap hn 4)
    have qg := ExtW.cell (v := .int .i64 title) (cell_of_heap hn2 0)
    obtain ⟨x0, hx0⟩ := ExtW.of (Ext.refl W)
    have HV := Lib.hid hv
    clear hW hn hn2 hv h0 h1 h2 h3
    conv => arg 5; rw [hx0]
    go_wp2_with fail
    refine (ExtW.call (HC2.out _ (hE.trans x0.h))).mono ?_
    rintro e _ ⟨rfl, x1, rfl⟩
    by_cases hg : 0 ≤ title ∧ title ≤ (S.stock.length : Int) - 1
    · have HGC := Lib.hid (RetS.bt hg (within07s title 0 ((S.stock.length : Int) - 1) x1.w))
      have HFV := Lib.hid (show copyV S title = .tuple #[.int .i64 (bestN (moreCopies (openV S) title.toNat) - bestN (openV S)), .int .i64 0] from by simp only [copyV, bP_t HS.out, bP_t hg, if_true])
      obtain ⟨t, rfl⟩ := Int.eq_ofNat_of_zero_le hg.1
      simp only [Int.toNat_natCast] at HFV
      have ht6 : t < 6 := by omega
      have hts : t < S.stock.length := by omega
      have hO := openV_ok HS.out
      have hcp : 0 ≤ (openV S).copies t ∧ (openV S).copies t ≤ 98 := by
        show 0 ≤ copiesTo S (nowTo S S.boxes.length) S.stock.length t ∧ copiesTo S (nowTo S S.boxes.length) S.stock.length t ≤ 98
        unfold copiesTo
        rw [if_pos hts, getD_of_lt _ _ _ hts]
        have hc := cntB_le (nowTo S S.boxes.length) t 3
        have := HS.out.st t hts
        omega
      have hqt := qg x1
      have hT : Turns 64 #[.pointer (some ⟨w.heap.size + 1, 0, none⟩)] x1.w (openV S) (moreCopies (openV S) t) :=
        ⟨Try.call64, fun w' b hw hb hvis => (CopyFn07 (openV S) t b (w.heap.size + 1) w' hvis hO ht6 (hw.cell hqt)).mono (fun e w'' ⟨h1, h2, h3⟩ => ⟨h1, h2, h3 _ hw hb⟩)⟩
      have HGN := Lib.hid (gain07 _ S 64 #[.pointer (some ⟨w.heap.size + 1, 0, none⟩)] (moreCopies (openV S) t) x1.w (SwapV.mono _ _ _ _ (hE.trans x1.h) HV.out) HS.out (moreCopies_ok hO t hcp.2 hcp.1) hT)
      clear hg hT
      go_wp2_with (go_at_call 57; refine HGC.out.mono ?_; rintro e w' ⟨rfl, rfl⟩)
      refine HGN.out.mono ?_
      rintro e W2 ⟨rfl, hE2⟩
      go_wp2
      go_ret2
      exact RetE.fin ((hE.trans x1.h).trans hE2) HFV.out.symm
    · have HFV := Lib.hid (show copyV S title = .tuple #[.int .i64 0, .int .i64 1] from by simp [copyV, bP_t HS.out, bP_f hg])
      have HGC := Lib.hid (RetS.bf hg (within07s title 0 ((S.stock.length : Int) - 1) x1.w))
      clear hg
      go_wp2_with (go_at_call 57; refine HGC.out.mono ?_; rintro e w' ⟨rfl, rfl⟩)
      go_ret2
      exact RetE.fin (hE.trans x1.h) HFV.out.symm
  · have HFV := Lib.hid (show copyV S title = .tuple #[.int .i64 0, .int .i64 70] from by simp [copyV, bP_f hS])
    have HC2 := Lib.hid (fun w' h => (HC.out w' h).mono (R' := RetE (.int .i64 70) w') (fun e w'' hh => by rw [← chk_f hS]; exact hh))
    clear HC hS
    go_enter Try.func24, Try.ntmps24
    go_wp2_with fail
    refine (HC2.out _ (Ext.alloc (Ext.alloc (Ext.refl w) _) _)).mono ?_
    rintro e W2 ⟨rfl, hE2⟩
    go_wp2
    go_ret2
    exact RetE.fin ((Ext.alloc (Ext.alloc (Ext.refl w) _) _).trans hE2) HFV.out.symm

/-- what Change returns -/
noncomputable def changeV (S : Swap) : Value :=
  if bP (Valid S) = true then .tuple #[.int .i64 (bestN (moreChanges (openV S)) - bestN (openV S)), .int .i64 0] else .tuple #[.int .i64 0, .int .i64 70]

set_option maxHeartbeats 1600000 in
theorem Change07 (v : Value) (S : Swap) (w : World) (hv : SwapV w v S) (hM : Modest S) : Calls Try.prog 26 #[v] w (RetE (changeV S) w) := by
  have hC := fun w' (h : Ext w w') => Check07 v S w' (SwapV.mono _ _ _ _ h hv) hM
  obtain ⟨p0, c0, p1, c1, p2, c2, p3, c3, rfl, h0, h1, h2, h3⟩ := id hv
  have HC := Lib.hid hC
  clear hC
  by_cases hS : Valid S
  · have HS := Lib.hid hS
    have HC2 := Lib.hid (fun w' h => (HC.out w' h).mono (R' := RetE (.int .i64 0) w') (fun e w'' hh => by rw [← chk_t hS]; exact hh))
    have HFV := Lib.hid (show changeV S = .tuple #[.int .i64 (bestN (moreChanges (openV S)) - bestN (openV S)), .int .i64 0] from by simp only [changeV, bP_t hS, if_true])
    clear HC hS
    go_enter Try.func26, Try.ntmps26
    go_upto_region 1 with (fail)
    have hn := heap_new w (.cells #[.slice p0 S.boxes.length c0, .slice p1 S.stock.length c1, .slice p2 S.earn.length c2, .slice p3 S.keeps.length c3, .int .i64 S.changes] 26)
    obtain ⟨W, hW⟩ : ∃ W, W = w.alloc (.cells #[.slice p0 S.boxes.length c0, .slice p1 S.stock.length c1, .slice p2 S.earn.length c2, .slice p3 S.keeps.length c3, .int .i64 S.changes] 26) := ⟨_, rfl⟩
    have hE : Ext w W := by rw [hW]; exact Ext.alloc (Ext.refl w) _
    rw [← hW] at hn ⊢
    have q0 := ExtW.cell (v := .slice p0 S.boxes.length c0) (cell_of_heap hn 0)
    have q1 := ExtW.cell (v := .slice p1 S.stock.length c1) (cell_of_heap hn 1)
    have q2 := ExtW.cell (v := .slice p2 S.earn.length c2) (cell_of_heap hn 2)
    have q3 := ExtW.cell (v := .slice p3 S.keeps.length c3) (cell_of_heap hn 3)
    have q4 := ExtW.cell (v := .int .i64 S.changes) (cell_of_heap hn 4)
    obtain ⟨x0, hx0⟩ := ExtW.of (Ext.refl W)
    have HV := Lib.hid hv
    clear hW hn hv h0 h1 h2 h3
    conv => arg 5; rw [hx0]
    go_wp2_with fail
    refine (ExtW.call (HC2.out _ (hE.trans x0.h))).mono ?_
    rintro e _ ⟨rfl, x1, rfl⟩
    have hO := openV_ok HS.out
    have hT : Turns 66 #[] x1.w (openV S) (moreChanges (openV S)) :=
      ⟨Try.call66, fun w' b hw hb hvis => (ChangeFn07 (openV S) b w' hvis hO).mono (fun e w'' ⟨h1, h2, h3⟩ => ⟨h1, h2, h3 _ hw hb⟩)⟩
    have HGN := Lib.hid (gain07 _ S 66 #[] (moreChanges (openV S)) x1.w (SwapV.mono _ _ _ _ (hE.trans x1.h) HV.out) HS.out (moreChanges_ok hO (by have := HS.out.ch.2; show S.changes ≤ 8; omega)) hT)
    clear hT
    go_wp2_with fail
    refine HGN.out.mono ?_
    rintro e W2 ⟨rfl, hE2⟩
    go_wp2
    go_ret2
    exact RetE.fin ((hE.trans x1.h).trans hE2) HFV.out.symm
  · have HFV := Lib.hid (show changeV S = .tuple #[.int .i64 0, .int .i64 70] from by simp [changeV, bP_f hS])
    have HC2 := Lib.hid (fun w' h => (HC.out w' h).mono (R' := RetE (.int .i64 70) w') (fun e w'' hh => by rw [← chk_f hS]; exact hh))
    clear HC hS
    go_enter Try.func26, Try.ntmps26
    go_wp2_with fail
    refine (HC2.out _ (Ext.alloc (Ext.refl w) _)).mono ?_
    rintro e W2 ⟨rfl, hE2⟩
    go_wp2
    go_ret2
    exact RetE.fin ((Ext.alloc (Ext.refl w) _).trans hE2) HFV.out.symm
end Go.Proofs.Ytpgjkmjejpfkmaa
