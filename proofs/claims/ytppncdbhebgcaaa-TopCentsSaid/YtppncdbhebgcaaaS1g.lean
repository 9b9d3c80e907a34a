
/- TopCents: the walks of the method shares and of Shares. -/
import Derived.Test.YtppncdbhebgcaaaS1f
import Derived.Test.YtppncdbhebgcaaaFc5
namespace Go.Proofs.Ytppncdbhebgcaaa
open Go.RowKit

/-- a new slice of zeros -/
def MadeZ (n : Nat) (v : Value) (_ : List Value) (s t : Nat) (w : World) : Prop := ∃ g, v = .slice (some ⟨g, 0, none⟩) n n ∧ s ≤ g ∧ g < t ∧ w.ownsRow s 3 1 v n (intVs (List.replicate n 0))
def Cp5 (v : Value) (l : List Value) (_ _ : Nat) (_ : World) : Prop := v = l.getD 0 undef
theorem MadeZ.ext {n : Nat} {v : Value} {l : List Value} {s t : Nat} {w w' : World} (h : MadeZ n v l s t w) (hE : Ext w w') : MadeZ n v l s t w' := by
  obtain ⟨g, e, h1, h2, h3⟩ := h
  exact ⟨g, e, h1, h2, ownsRow_ext h3 hE⟩

/-- shares at work: out and order -/
structure ShS (w wr : World) (bw bp g g1 g2 n : Nat) (pool all : Int) (O L : List Int) : Prop where
  ext : Ext w wr
  lt : w.heap.size ≤ bw ∧ bw < bp ∧ bp < g1 ∧ bp < g2 ∧ g1 ≠ g2
  mw : wr.heap[bw]? = some (.cells #[.slice (some ⟨g, 0, none⟩) n n, .int .i64 all] 78)
  mp : wr.heap[bp]? = some (.cells #[.int .i64 pool] 3)
  O1 : wr.ownsRow (bp + 1) 3 1 (.slice (some ⟨g1, 0, none⟩) n n) n (intVs O)
  O2 : wr.ownsRow (bp + 1) 3 1 (.slice (some ⟨g2, 0, none⟩) n n) n (intVs L)
section
variable {w wr wr' : World} {bw bp g g1 g2 n : Nat} {pool all : Int} {O L : List Int}
theorem ShS.ext' (h : ShS w wr bw bp g g1 g2 n pool all O L) (hE : Ext wr wr') : ShS w wr' bw bp g g1 g2 n pool all O L :=
  ⟨h.ext.trans hE, h.lt, heap_ext3 h.mw hE, heap_ext3 h.mp hE, ownsRow_ext h.O1 hE, ownsRow_ext h.O2 hE⟩
theorem ShS.set1 (h : ShS w wr bw bp g g1 g2 n pool all O L) (i : Nat) (x : Int) : ShS w (wr.setCell ⟨g1, i, none⟩ (.int .i64 x)) bw bp g g1 g2 n pool all (O.set i x) L := by
  obtain ⟨l1, l2, l3, l4, l5⟩ := h.lt
  exact ⟨h.ext.setCell (p := ⟨g1, i, none⟩) (by show w.heap.size ≤ g1; omega) _, h.lt, heap_set_ne (by omega) h.mw, heap_set_ne (by omega) h.mp, ownsRow_set h.O1,
    own_keepS h.O2 fun y hy => by cases hy; exact heap_off (show g2 ≠ g1 by omega)⟩
theorem ShS.set2 (h : ShS w wr bw bp g g1 g2 n pool all O L) (i : Nat) (x : Int) : ShS w (wr.setCell ⟨g2, i, none⟩ (.int .i64 x)) bw bp g g1 g2 n pool all O (L.set i x) := by
  obtain ⟨l1, l2, l3, l4, l5⟩ := h.lt
  exact ⟨h.ext.setCell (p := ⟨g2, i, none⟩) (by show w.heap.size ≤ g2; omega) _, h.lt, heap_set_ne (by omega) h.mw, heap_set_ne (by omega) h.mp,
    own_keepS h.O1 fun y hy => by cases hy; exact heap_off (show g1 ≠ g2 by omega), ownsRow_set h.O2⟩
theorem ShS.sort (h : ShS w wr bw bp g g1 g2 n pool all O L) {L' : List Int} (hU : Ups g2 wr wr') (hO : wr'.ownsRow (bp + 1) 3 1 (.slice (some ⟨g2, 0, none⟩) n n) n (intVs L')) : ShS w wr' bw bp g g1 g2 n pool all O L' := by
  obtain ⟨l1, l2, l3, l4, l5⟩ := h.lt
  exact ⟨h.ext.ups hU (by omega), h.lt, (hU.block bw (Array.getElem?_eq_some_iff.1 h.mw).1 (by omega)).trans h.mw, (hU.block bp (Array.getElem?_eq_some_iff.1 h.mp).1 (by omega)).trans h.mp,
    own_keepS h.O1 fun y hy => by cases hy; exact hU.block g1 (h.O1.lt g1 rfl).2 l5, hO⟩
theorem ShS.cls (h : ShS w wr bw bp g g1 g2 n pool all O L) {of : List Int} (hI : IntsAt w (some ⟨g, 0, none⟩) of) (hl : of.length = n) {z : World} (hU : Ups g2 wr z) : ClsS z bp bw g n pool all of := by
  obtain ⟨l1, l2, l3, l4, l5⟩ := h.lt
  have m1 := (hU.block bw (Array.getElem?_eq_some_iff.1 h.mw).1 (by omega)).trans h.mw
  have m2 := (hU.block bp (Array.getElem?_eq_some_iff.1 h.mp).1 (by omega)).trans h.mp
  exact ⟨cell_of_heap m2 0, cell_of_heap m1 0, cell_of_heap m1 1, hI.ext (h.ext.ups hU (by omega)), hl⟩
end
theorem FirstS.trans {pool all : Int} {of : List Int} {x y z : Int} (h : FirstS pool all of x y) (h' : FirstS pool all of y z) : FirstS pool all of x z := by
  unfold FirstS at *
  omega
theorem base_at {pool all : Int} {of : List Int} {k : Nat} (h : k < of.length) : (baseS pool all of).getD k 0 = pool * of[k] / all := by
  unfold baseS
  rw [List.getD_eq_getElem?_getD, List.getElem?_map, List.getElem?_eq_getElem h]; rfl
theorem eq_getD {l l' : List Int} (h : l.length = l'.length) (hh : ∀ i, i < l.length → l.getD i 0 = l'.getD i 0) : l = l' := by
  refine List.ext_getElem h fun i h1 h2 => ?_
  have := hh i h1
  rwa [List.getD_eq_getElem?_getD, List.getElem?_eq_getElem h1, List.getD_eq_getElem?_getD, List.getElem?_eq_getElem h2] at this
theorem idS_at {n k : Nat} (h : k < n) : (idS n).getD k 0 = (k : Int) := by
  unfold idS
  rw [List.getD_eq_getElem?_getD, List.getElem?_map, List.getElem?_range h]; rfl
theorem pos_id (n : Nat) : PosO (idS n) 1 n := ⟨fun t _ h => idS_at h, fun t h h2 => by rw [idS_at h2]; omega⟩
theorem getD_setI (l : List Int) (i : Nat) (v : Int) (k : Nat) (h : i < l.length) : (l.set i v).getD k 0 = if i = k then v else l.getD k 0 := getD_set l i v k h
/-- the shares of a pool -/
def RetSh (pool all : Int) (of : List Int) (n : Nat) (w : World) (e : Ending) (w' : World) : Prop :=
  ∃ g l, e = .returned (.slice (some ⟨g, 0, none⟩) n n) ∧ l.length = n ∧ Ext w w' ∧ IsShares pool all of l ∧ IntsAt w' (some ⟨g, 0, none⟩) l
theorem WOK.take {n : Nat} {t : Int} {l : List Int} (h : WOK n t l) (k : Nat) : 0 ≤ (l.take k).sum ∧ (l.take k).sum ≤ t := by
  have e : (l.take k).sum + (l.drop k).sum = t := by rw [← List.sum_append, List.take_append_drop, h.sum]
  have h0 : ∀ {r : List Int}, (∀ x ∈ r, 0 ≤ x) → 0 ≤ r.sum := by
    intro r
    induction r with
    | nil => intro _; simp
    | cons b r ih => intro h; rw [List.sum_cons]; have := h b (by simp); have := ih (fun x hx => h x (by simp [hx])); omega
  have h1 : 0 ≤ (l.take k).sum := h0 fun x hx => h.pos x (List.mem_of_mem_take hx)
  have h2 : 0 ≤ (l.drop k).sum := h0 fun x hx => h.pos x (List.mem_of_mem_drop hx)
  omega
theorem take_sum {l : List Int} (k : Nat) (h : k < l.length) : (l.take (k + 1)).sum = (l.take k).sum + l.getD k 0 := by
  rw [take_snoc h, List.sum_append, List.getD_eq_getElem?_getD, List.getElem?_eq_getElem h]
  simp

set_option maxRecDepth 20000 in
set_option maxHeartbeats 6400000 in
theorem shares10 (g n : Nat) (pool all : Int) (of : List Int) (w : World) (hI : IntsAt w (some ⟨g, 0, none⟩) of) (hW : WOK n all of) (hn : n ≤ 6) (hp : 0 ≤ pool ∧ pool ≤ 9999) (ha : 0 < all ∧ all ≤ 6000000) :
    Calls Try.prog 28 #[.agg #[.slice (some ⟨g, 0, none⟩) n n, .int .i64 all], .int .i64 pool] w (RetSh pool all of n w) := by
  have HI := Lib.hid hI
  have HW := Lib.hid hW
  have HP := Lib.hid hp
  have HA := Lib.hid ha
  obtain ⟨hleft0, hleft1, hbase⟩ := left_bd ha.1 hp.1 hW
  have HB := Lib.hid hbase
  have HL := Lib.hid (⟨hleft0, hleft1⟩ : 0 ≤ leftS pool all of ∧ leftS pool all of ≤ (n : Int))
  have hmk := fun y => make_i n (by omega) y
  have han : ¬all = 0 := by omega
  clear hI hW hp hleft0 hleft1 hbase ha
  go_enter Try.func28, Try.ntmps28
  go_upto_region 1 with (fail)
  obtain ⟨bw, hbw⟩ : ∃ bw, bw = w.heap.size := ⟨_, rfl⟩
  obtain ⟨W1, hW1⟩ : ∃ W1, W1 = w.alloc (.cells #[.slice (some ⟨g, 0, none⟩) n n, .int .i64 all] 78) := ⟨_, rfl⟩
  obtain ⟨W, hW⟩ : ∃ W, W = W1.alloc (.cells #[.int .i64 pool] 3) := ⟨_, rfl⟩
  have z1 : W1.heap.size = bw + 1 := by rw [hW1, size_alloc, hbw]
  have z2 : W.heap.size = bw + 2 := by rw [hW, size_alloc, z1]
  obtain ⟨bp, hbp⟩ : ∃ bp, bp = bw + 1 := ⟨_, rfl⟩
  have x1 : Ext w W1 := by rw [hW1]; exact Ext.alloc (Ext.refl _) _
  have x2 : Ext W1 W := by rw [hW]; exact Ext.alloc (Ext.refl _) _
  have m0 : W.heap[bw]? = some (.cells #[.slice (some ⟨g, 0, none⟩) n n, .int .i64 all] 78) := heap_ext3 (by rw [hbw, hW1]; exact heap_new _ _) x2
  have m1 : W.heap[bp]? = some (.cells #[.int .i64 pool] 3) := by rw [hbp, ← z1, hW]; exact heap_new _ _
  rw [← hbw, ← hbp, ← hW1, ← hW]
  have hE : Ext w W := x1.trans x2
  have HE := Lib.hid hE
  have HM0 := Lib.hid m0
  have HM1 := Lib.hid m1
  have HKC := Lib.hid (fun y (h : Ext W y) => (⟨cell_of_heap (heap_ext3 m0 h) 0, cell_of_heap (heap_ext3 m1 h) 0⟩ :
    y.cell? ⟨bw, 0, none⟩ = some (.slice (some ⟨g, 0, none⟩) n n) ∧ y.cell? ⟨bp, 0, none⟩ = some (.int .i64 pool)))
  have HSB := Lib.hid (⟨hbw, hbp, z2⟩ : bw = w.heap.size ∧ bp = bw + 1 ∧ W.heap.size = bw + 2)
  clear hbw hbp hW1 hW z1 z2 x1 x2 m0 m1 hE
  refine wp_region_facts5 11 [[], [0], [1], [2], [], [4], [5], [6], [], [3], [7]] [3, 7, 8, 9, 10] [] (fun _ => []) (fun _ => Ext) (Ext) (fun _ => Ext) (FL5 [Is5 (.pointer (some ⟨bw, 0, none⟩)), Is5 (.slice (some ⟨g, 0, none⟩) n n), Is5 (.int .i64 (n : Int)), MadeZ n, Is5 (.pointer (some ⟨bw, 0, none⟩)), Is5 (.slice (some ⟨g, 0, none⟩) n n), Is5 (.int .i64 (n : Int)), MadeZ n, Is5 (.int .i64 pool), Cp5, Cp5]) (by kernel_rfl) (by kernel_rfl) (by kernel_rfl) (fun _ _ _ h => h) (fun _ h => by cases h) (fun _ h => by cases h) (fun _ h => by cases h) Ext.refl (fun _ _ _ => Ext.trans) (fun _ _ h => h.size) ?_ ⟨?_, ?_, ?_, ?_, ?_, ?_, ?_, ?_, ?_, ?_, ?_, trivial⟩ ?_
  · intro i j v l s t w w' hj hst
    match j, hj with
    | 0, _ => exact fun h => h
    | 1, _ => exact fun h => h
    | 2, _ => exact fun h => h
    | 3, _ => exact fun h => MadeZ.ext (l := l) h hst
    | 4, _ => exact fun h => h
    | 5, _ => exact fun h => h
    | 6, _ => exact fun h => h
    | 7, _ => exact fun h => MadeZ.ext (l := l) h hst
    | 8, _ => exact fun h => h
    | 9, _ => exact fun h => h
    | 10, _ => exact fun h => h
    | n + 11, _ => exact fun h => h
  · refine opF5_step ?_
    intro ys l0 h0 w' hr hs hf K hK
    clear hf
    clear hs
    simp only [fill, Act.put, dstO, List.take_succ_cons, List.take_zero, List.setIfInBounds_toArray, List.set_cons_zero, List.set_cons_succ, List.getElem?_cons_zero, Nat.zero_add, Nat.reduceAdd] at hK ⊢
    refine OpB.mk' ?_
    go_simp
    exact hK.out _ _ rfl (id (Ext.refl _))
  · refine opF5_step ?_
    intro ys l0 h0 w' hr hs hf K hK
    obtain ⟨f0, -⟩ := hf
    have e0 : ys 0 = _ := f0
    obtain ⟨j0, j1⟩ := HKC.out w' ((Ext.refl W).drew.trans hr)
    clear hs
    simp only [fill, Act.put, dstO, List.take_succ_cons, List.take_zero, List.setIfInBounds_toArray, List.set_cons_zero, List.set_cons_succ, List.getElem?_cons_zero, List.getElem?_cons_succ, Nat.zero_add, Nat.reduceAdd] at hK ⊢
    simp only [e0] at hK ⊢
    clear e0 f0
    refine OpB.mk' ?_
    go_simp
    exact hK.out _ _ rfl (id (Ext.refl _))
  · refine opF5_step ?_
    intro ys l0 h0 w' hr hs hf K hK
    obtain ⟨f0, -⟩ := hf
    have e0 : ys 1 = _ := f0
    clear hs
    simp only [fill, Act.put, dstO, List.take_succ_cons, List.take_zero, List.setIfInBounds_toArray, List.set_cons_zero, List.set_cons_succ, List.getElem?_cons_zero, List.getElem?_cons_succ, Nat.zero_add, Nat.reduceAdd] at hK ⊢
    simp only [e0] at hK ⊢
    clear e0 f0
    refine OpB.mk' ?_
    go_simp
    exact hK.out _ _ rfl (id (Ext.refl _))
  · refine opF5_step ?_
    intro ys l0 h0 w' hr hs hf K hK
    obtain ⟨f0, -⟩ := hf
    have e0 : ys 2 = _ := f0
    clear hs
    simp only [fill, Act.put, dstO, List.take_succ_cons, List.take_zero, List.setIfInBounds_toArray, List.set_cons_zero, List.set_cons_succ, List.getElem?_cons_zero, List.getElem?_cons_succ, Nat.zero_add, Nat.reduceAdd] at hK ⊢
    simp only [e0] at hK ⊢
    clear e0 f0
    refine OpB.mk' ?_
    go_simp
    exact hK.out _ _ ⟨_, rfl, Nat.le_refl _, by rw [size_alloc]; omega, own_made_i w' _ _ (Nat.le_refl _) (by omega)⟩ (Ext.alloc (Ext.refl _) _)
  · refine opF5_step ?_
    intro ys l0 h0 w' hr hs hf K hK
    clear hf
    clear hs
    simp only [fill, Act.put, dstO, List.take_succ_cons, List.take_zero, List.setIfInBounds_toArray, List.set_cons_zero, List.set_cons_succ, List.getElem?_cons_zero, List.getElem?_cons_succ, Nat.zero_add, Nat.reduceAdd] at hK ⊢
    refine OpB.mk' ?_
    go_simp
    exact hK.out _ _ rfl (id (Ext.refl _))
  · refine opF5_step ?_
    intro ys l0 h0 w' hr hs hf K hK
    obtain ⟨f0, -⟩ := hf
    have e0 : ys 4 = _ := f0
    obtain ⟨j0, j1⟩ := HKC.out w' ((Ext.refl W).drew.trans hr)
    clear hs
    simp only [fill, Act.put, dstO, List.take_succ_cons, List.take_zero, List.setIfInBounds_toArray, List.set_cons_zero, List.set_cons_succ, List.getElem?_cons_zero, List.getElem?_cons_succ, Nat.zero_add, Nat.reduceAdd] at hK ⊢
    simp only [e0] at hK ⊢
    clear e0 f0
    refine OpB.mk' ?_
    go_simp
    exact hK.out _ _ rfl (id (Ext.refl _))
  · refine opF5_step ?_
    intro ys l0 h0 w' hr hs hf K hK
    obtain ⟨f0, -⟩ := hf
    have e0 : ys 5 = _ := f0
    clear hs
    simp only [fill, Act.put, dstO, List.take_succ_cons, List.take_zero, List.setIfInBounds_toArray, List.set_cons_zero, List.set_cons_succ, List.getElem?_cons_zero, List.getElem?_cons_succ, Nat.zero_add, Nat.reduceAdd] at hK ⊢
    simp only [e0] at hK ⊢
    clear e0 f0
    refine OpB.mk' ?_
    go_simp
    exact hK.out _ _ rfl (id (Ext.refl _))
  · refine opF5_step ?_
    intro ys l0 h0 w' hr hs hf K hK
    obtain ⟨f0, -⟩ := hf
    have e0 : ys 6 = _ := f0
    clear hs
    simp only [fill, Act.put, dstO, List.take_succ_cons, List.take_zero, List.setIfInBounds_toArray, List.set_cons_zero, List.set_cons_succ, List.getElem?_cons_zero, List.getElem?_cons_succ, Nat.zero_add, Nat.reduceAdd] at hK ⊢
    simp only [e0] at hK ⊢
    clear e0 f0
    refine OpB.mk' ?_
    go_simp
    exact hK.out _ _ ⟨_, rfl, Nat.le_refl _, by rw [size_alloc]; omega, own_made_i w' _ _ (Nat.le_refl _) (by omega)⟩ (Ext.alloc (Ext.refl _) _)
  · refine opF5_step ?_
    intro ys l0 h0 w' hr hs hf K hK
    clear hf
    obtain ⟨j0, j1⟩ := HKC.out w' ((Ext.refl W).drew.trans hr)
    clear hs
    simp only [fill, Act.put, dstO, List.take_succ_cons, List.take_zero, List.setIfInBounds_toArray, List.set_cons_zero, List.set_cons_succ, List.getElem?_cons_zero, List.getElem?_cons_succ, Nat.zero_add, Nat.reduceAdd] at hK ⊢
    refine OpB.mk' ?_
    go_simp
    exact hK.out _ _ rfl (id (Ext.refl _))
  · refine opF5_step ?_
    intro ys l0 h0 w' hr hs hf K hK
    obtain ⟨f0, -⟩ := hf
    obtain ⟨g0, e0, -⟩ := f0
    clear hs
    simp only [fill, Act.put, dstO, List.take_succ_cons, List.take_zero, List.setIfInBounds_toArray, List.set_cons_zero, List.set_cons_succ, List.getElem?_cons_zero, List.getElem?_cons_succ, Nat.zero_add, Nat.reduceAdd] at hK ⊢
    simp only [e0] at hK ⊢
    refine OpB.mk' ?_
    go_simp
    exact hK.out _ _ e0.symm (Ext.refl _)
  · refine opF5_step ?_
    intro ys l0 h0 w' hr hs hf K hK
    obtain ⟨f0, -⟩ := hf
    obtain ⟨g0, e0, -⟩ := f0
    clear hs
    simp only [fill, Act.put, dstO, List.take_succ_cons, List.take_zero, List.setIfInBounds_toArray, List.set_cons_zero, List.set_cons_succ, List.getElem?_cons_zero, List.getElem?_cons_succ, Nat.zero_add, Nat.reduceAdd] at hK ⊢
    simp only [e0] at hK ⊢
    refine OpB.mk' ?_
    go_simp
    exact hK.out _ _ e0.symm (Ext.refl _)
  intro ys l0 h0 w2 hr hf hsp
  obtain ⟨f3, f7, f8, f9, f10, -⟩ := hf
  obtain ⟨g1, e3, l1, l1b, o1⟩ := f3
  obtain ⟨g2, e7, l2, l2b, o2⟩ := f7
  have e8 : ys 8 = _ := f8
  have e9 : ys 9 = ys 3 := f9
  have e10 : ys 10 = ys 7 := f10
  simp only [fill, Act.put, List.take_succ_cons, List.take_zero, List.setIfInBounds_toArray, List.set_cons_zero, List.set_cons_succ, Nat.zero_add, Nat.reduceAdd, List.drop_succ_cons, List.drop_zero]
  rw [e8]
  clear e8 f8
  rw [e9, e3]
  rw [e10, e7]
  have hap := hsp.apart 3 7 (by decide) (by decide) (by decide)
  have hle1 := (hsp.le 3 (by decide)).1
  have hle2 := (hsp.le 7 (by decide)).1
  clear hsp
  have hE2 : Ext W w2 := (Ext.refl W).drew.trans hr
  have hS : ShS w w2 bw bp g g1 g2 n pool all (List.replicate n 0) (List.replicate n 0) := by
    obtain ⟨h1, h2, h3⟩ := HSB.out
    exact ⟨HE.out.trans hE2, ⟨by omega, by omega, by omega, by omega, by omega⟩, heap_ext3 HM0.out hE2, heap_ext3 HM1.out hE2, ownsRow_base (by rw [e3] at o1; exact o1) (by omega), ownsRow_base (by rw [e7] at o2; exact o2) (by omega)⟩
  have HS := Lib.hid hS
  have c0 : w2.cell? ⟨bw, 0, none⟩ = some (.slice (some ⟨g, 0, none⟩) n n) := cell_of_heap hS.mw 0
  clear hr hE2 hS e3 e7 e9 e10 f9 f10 l1 l1b l2 l2b o1 o2 hap hle1 hle2 hmk HKC
  go_wp2
  go_loopw [7, 24] (fun a i wr => ∃ k : Nat, k ≤ n ∧ i = .int .i64 k ∧ a = .int .i64 (pool - ((baseS pool all of).take k).sum) ∧ ∃ O L : List Int, O.length = n ∧ L.length = n ∧ (∀ t, t < k → O.getD t 0 = (baseS pool all of).getD t 0) ∧ (∀ t, t < k → L.getD t 0 = (t : Int)) ∧ ShS w wr bw bp g g1 g2 n pool all O L) (fun _ i _ => n - (intOf i).toNat)
  case atStart => exact ⟨0, Nat.zero_le _, rfl, by simp, _, _, by simp, by simp, fun t h => by omega, fun t h => by omega, HS.out⟩
  case round =>
    obtain ⟨k, hk, rfl, rfl, O, L, hOl, hLl, hOt, hLt, hS⟩ := hrel
    have HS := Lib.hid hS
    have HOL : EqS O.length n := ⟨hOl⟩
    have HLL : EqS L.length n := ⟨hLl⟩
    have HOT := Lib.hid hOt
    have HLT := Lib.hid hLt
    obtain ⟨lf, hlf⟩ : ∃ lf, lf = pool - ((baseS pool all of).take k).sum := ⟨_, rfl⟩
    rw [← hlf]
    have HLF := Lib.hid hlf
    clear hS hOl hLl hOt hLt hlf
    by_cases hlt : k < n
    · have hlt' : (k : Int) < (n : Int) := by omega
      have hkof : k < of.length := by rw [HW.out.len]; exact hlt
      obtain ⟨b', o', e, hc⟩ := HI.out.at k hkof
      cases e
      rw [Nat.zero_add] at hc
      have k0 := HS.out.ext.cell hc
      have hu0 := HW.out.pos of[k] (List.getElem_mem _)
      have hu1 := HW.out.le of[k] (List.getElem_mem _)
      have hbk := base_at (pool := pool) (all := all) hkof
      have hts := take_sum (l := baseS pool all of) k (by rw [HB.out.len]; exact hlt)
      have hb0 := HB.out.pos ((baseS pool all of).getD k 0) (by rw [List.getD_eq_getElem?_getD, List.getElem?_eq_getElem (by rw [HB.out.len]; exact hlt)]; exact List.getElem_mem _)
      have hpre : 0 ≤ ((baseS pool all of).take k).sum ∧ ((baseS pool all of).take k).sum ≤ pool := by
        have e1 := WOK.take HB.out k
        have e2 := HL.out
        omega
      obtain ⟨bk, hbkE⟩ : ∃ bk, bk = (baseS pool all of).getD k 0 := ⟨_, rfl⟩
      rw [← hbkE] at hbk hts hb0
      obtain ⟨u, hu⟩ : ∃ u, u = of[k] := ⟨_, rfl⟩
      rw [← hu] at k0 hu0 hu1 hbk
      have HBK := Lib.hid hbkE
      have HTS := Lib.hid hts
      have hpa := HP.out
      have haa := HA.out
      have p1 : 0 ≤ pool * u ∧ pool * u ≤ 9999 * 6000000 := ⟨Int.mul_nonneg hpa.1 hu0, Int.mul_le_mul hpa.2 (by omega) hu0 (by omega)⟩
      have w1 : IntKind.i64.wrap (pool * u) = pool * u := IntWalk.i64_in _ (by omega)
      have q1 : (pool * u).tdiv all = pool * u / all := Int.tdiv_eq_ediv_of_nonneg p1.1
      have hbd : bk ≤ 9999 * 6000000 := by
        rw [hbk]
        exact Int.le_trans (Int.ediv_le_self _ p1.1) p1.2
      rw [← hbk] at q1
      have w2 : IntKind.i64.wrap bk = bk := IntWalk.i64_in _ (by omega)
      have hlfb : -9999 ≤ lf ∧ lf ≤ 9999 := by have := HLF.out; omega
      have w3 : IntKind.i64.wrap (lf - bk) = lf - bk := IntWalk.i64_in _ (by omega)
      have c0 : wr.cell? ⟨bw, 0, none⟩ = some (.slice (some ⟨g, 0, none⟩) n n) := cell_of_heap HS.out.mw 0
      have c1 : wr.cell? ⟨bw, 1, none⟩ = some (.int .i64 all) := cell_of_heap HS.out.mw 1
      have c2 : wr.cell? ⟨bp, 0, none⟩ = some (.int .i64 pool) := cell_of_heap HS.out.mp 0
      obtain ⟨d1, f1⟩ := ownsRow_cell HS.out.O1 (i := k) (by rw [HOL.out]; exact hlt)
      have hS2 := (HS.out.set1 k bk)
      obtain ⟨d2, f2⟩ := ownsRow_cell hS2.O2 (i := k) (by rw [HLL.out]; exact hlt)
      have hS3 := hS2.set2 k (k : Int)
      obtain ⟨d3, f3⟩ := ownsRow_cell hS3.O1 (i := k) (by rw [List.length_set, HOL.out]; exact hlt)
      rw [List.getElem_set_self] at d3
      have HS3 := Lib.hid hS3
      clear hc hbkE hu hts hpre hbk hpa haa p1 hb0 hu0 hu1 hbd hlfb hS2 hS3 hkof
      go_wp2
      refine ⟨⟨k + 1, by omega, by simp, by have h1 := HTS.out; have h2 := HLF.out; first | omega | (congr 1; omega), O.set k bk, L.set k (k : Int), by rw [List.length_set]; exact HOL.out, by rw [List.length_set]; exact HLL.out, fun t ht => ?_, fun t ht => ?_, HS3.out⟩, by simp [intOf]; omega⟩
      · rw [getD_setI _ _ _ _ (by rw [HOL.out]; exact hlt)]
        by_cases e : k = t
        · rw [if_pos e, HBK.out, e]
        · rw [if_neg e]; exact HOT.out t (by omega)
      · rw [getD_setI _ _ _ _ (by rw [HLL.out]; exact hlt)]
        by_cases e : k = t
        · rw [if_pos e, e]
        · rw [if_neg e]; exact HLT.out t (by omega)
    · obtain rfl : k = n := by omega
      have hge : ¬((k : Int) < (k : Int)) := by omega
      have hOB : O = baseS pool all of := eq_getD (by rw [HOL.out, HB.out.len]) fun i hi => HOT.out i (by rw [HOL.out] at hi; exact hi)
      have hLI : L = idS k := eq_getD (by rw [HLL.out, idS_len]) fun i hi => by
        rw [HLL.out] at hi
        rw [HLT.out i hi, idS_at hi]
      have hlf2 : lf = leftS pool all of := by
        rw [HLF.out, List.take_of_length_le (by rw [HB.out.len]; exact Nat.le_refl _)]
        rfl
      subst hOB hLI
      obtain ⟨m, hm⟩ : ∃ m : Nat, (m : Int) = leftS pool all of := ⟨(leftS pool all of).toNat, by have := HL.out; omega⟩
      have hmk : m ≤ k := by have := HL.out; omega
      obtain rfl : lf = (m : Int) := by omega
      have HM := Lib.hid (by omega : (leftS pool all of).toNat = m)
      have hwm : (m : Int) ≤ (k : Int) := by omega
      have hm0 : (0 : Int) ≤ (m : Int) := by omega
      have HSO := Lib.hid (by
        refine sortCS (bp + 1) g2 k k (idS k) (idS_len k) (by omega) wr HS.out.O2 bp bw (FirstS pool all of) (fun _ _ _ => FirstS.trans) (fun x y => cmpN (keyS pool all of y) (keyS pool all of x)) (fun x hx y hy h => Or.inl (cmp_neg.1 h)) (fun x hx y hy hyx h => ?_) (pos_id k) (fun x hx y hy z hz => ?_)
        · have h' : ¬keyS pool all of y < keyS pool all of x := fun h' => h (cmp_neg.2 h')
          unfold FirstS
          omega
        · obtain ⟨hx0, hx1⟩ := mem_idS.1 hx
          obtain ⟨hy0, hy1⟩ := mem_idS.1 hy
          obtain ⟨a, rfl⟩ : ∃ a : Nat, x = (a : Int) := ⟨x.toNat, by omega⟩
          obtain ⟨b, rfl⟩ : ∃ b : Nat, y = (b : Int) := ⟨y.toNat, by omega⟩
          exact less10 bp bw g k pool all of a b z (HS.out.cls HI.out HW.out.len hz) (by omega) (by omega) HP.out HA.out (fun u hu => ⟨HW.out.pos u hu, by have := HW.out.le u hu; have := HA.out; omega⟩))
      clear hlf2 hm hlt
      go_upto_region 9 with (go_at_call 43; refine HSO.out.mono ?_; rintro e w3 ⟨rfl, o, ho1, ho2, hU3, hO3⟩)
      have HS3 := Lib.hid (HS.out.sort hU3 hO3)
      have HO1 := Lib.hid ho1
      have HO2 := Lib.hid ho2
      have hol : EqS o.length k := ⟨by rw [ho1.length_eq, idS_len]⟩
      clear ho1 ho2 hU3 hO3 HSO
      go_wp2
      go_loopw [56] (fun i wr2 => ∃ j : Nat, j ≤ m ∧ i = .int .i64 j ∧ ShS w wr2 bw bp g g1 g2 k pool all (incL (baseS pool all of) (o.take j)) o) (fun i _ => m - (intOf i).toNat)
      case atStart => exact ⟨0, Nat.zero_le _, rfl, by rw [List.take_zero]; exact HS3.out⟩
      case round =>
        obtain ⟨j, hj, rfl, hS⟩ := hrel
        have HS := Lib.hid hS
        have hmem : ∀ x ∈ o, 0 ≤ x ∧ x < (k : Int) := fun x hx => mem_idS.1 (HO1.out.subset hx)
        have hok := inc_ok HB.out (o := o.take j) (fun x hx => hmem x (List.mem_of_mem_take hx))
        have HK := Lib.hid hok
        clear hS hok
        by_cases hlj : j < m
        · have hlj' : (j : Int) < (m : Int) := by omega
          have hjo : j < o.length := by rw [hol.out]; omega
          obtain ⟨d1, f1⟩ := ownsRow_cell HS.out.O2 hjo
          obtain ⟨a, ha⟩ : ∃ a : Nat, (a : Int) = o[j] := ⟨o[j].toNat, by have := hmem o[j] (List.getElem_mem _); omega⟩
          have hak : a < k := by have := hmem o[j] (List.getElem_mem _); omega
          have hak' : (a : Int) < (k : Int) := by omega
          rw [← ha] at d1
          have htk := take_snoc hjo
          rw [← ha] at htk
          obtain ⟨I, hI⟩ : ∃ I, I = incL (baseS pool all of) (o.take j) := ⟨_, rfl⟩
          rw [← hI] at HS HK
          have HII := Lib.hid hI
          have haI : a < I.length := by rw [HK.out.len]; exact hak
          obtain ⟨d2, f2⟩ := ownsRow_cell HS.out.O1 haI
          have hxp := HK.out.pos I[a] (List.getElem_mem _)
          have hxl := HK.out.le I[a] (List.getElem_mem _)
          have hgd : I.getD a 0 = I[a] := by rw [List.getD_eq_getElem?_getD, List.getElem?_eq_getElem haI]; rfl
          obtain ⟨x, hx⟩ : ∃ x, x = I[a] := ⟨_, rfl⟩
          rw [← hx] at d2 hxp hxl hgd
          have hxb : x ≤ 10100 := by
            have h1 := HL.out
            have h2 := HP.out
            have h3 : ((o.take j).length : Int) ≤ 6 := by rw [List.length_take]; omega
            omega
          have hw1 : IntKind.i64.wrap (x + 1) = x + 1 := IntWalk.i64_in _ (by omega)
          have HTK := Lib.hid htk
          have HGD := Lib.hid hgd
          have hm6 : m ≤ 6 := by omega
          clear hI htk hgd hx hxl hxp hxb ha hmem hjo
          go_wp2
          refine ⟨⟨j + 1, by omega, by simp, ?_⟩, by simp [intOf]; omega⟩
          have e : incL (baseS pool all of) (o.take (j + 1)) = I.set a (x + 1) := by
            rw [HTK.out]
            unfold incL
            rw [List.foldl_append]
            have h1 := HII.out
            unfold incL at h1
            rw [← h1]
            simp only [List.foldl_cons, List.foldl_nil, Int.toNat_natCast]
            rw [HGD.out]
          rw [e]
          exact HS.out.set1 a (x + 1)
        · obtain rfl : j = m := by omega
          have hge : ¬((j : Int) < (j : Int)) := by omega
          clear hmem
          go_wp2
          go_ret
          refine ⟨g1, incL (baseS pool all of) (o.take j), rfl, ?_, HS.out.ext, ⟨o, by rw [HW.out.len]; exact HO1.out, HO2.out, by rw [HM.out]⟩, ?_⟩
          · exact HK.out.len
          · refine row_ints (B := bp + 1) (c := k) ?_
            rw [HK.out.len]
            exact HS.out.O1

set_option maxRecDepth 20000 in
set_option maxHeartbeats 1600000 in
theorem Shares10 (R : Ry) (v : Value) (w : World) (hv : RyV w v R) (hR : RyOK R) (hps : ∀ s ∈ R.sides, s.parts.length ≤ 1000) (h0 : playsR R ≠ 0) :
    Calls Try.prog 14 #[v] w (fun e w' => ∃ g l, e = .returned (.tuple #[.slice (some ⟨g, 0, none⟩) R.owed.length R.owed.length, .int .i64 0]) ∧ l.length = R.owed.length ∧ Ext w w' ∧ IsShares R.pool (allW R) (ofW R) l ∧ IntsAt w' (some ⟨g, 0, none⟩) l) := by
  have HWG := Lib.hid (fun y (h : Ext w y) => weigh10 R v y (hv.ext h) hR hps h0)
  have hall : 0 < allW R ∧ allW R ≤ 6000000 := by
    have := plays_pos hR
    unfold allW
    omega
  obtain ⟨all, hal⟩ : ∃ all, all = allW R := ⟨_, rfl⟩
  obtain ⟨n, hn⟩ : ∃ n, n = R.owed.length := ⟨_, rfl⟩
  obtain ⟨pool, hpool⟩ : ∃ pool, pool = R.pool := ⟨_, rfl⟩
  obtain ⟨of, hof⟩ : ∃ of, of = ofW R := ⟨_, rfl⟩
  have hok := of_ok hR
  have hnw := hR.nw
  have hpo := hR.pool
  rw [← hal, ← hof, ← hn] at hok
  rw [← hn] at hnw
  rw [← hpool] at hpo
  rw [← hal] at hall
  have HSH := Lib.hid (fun y g (hI : IntsAt y (some ⟨g, 0, none⟩) of) => shares10 g n pool all of y hI hok hnw hpo hall)
  obtain ⟨p, c, q, d, rfl, hp, hq⟩ := hv
  rw [← hal, ← hn, ← hof] at HWG
  rw [← hpool] at HWG
  rw [← hn, ← hpool, ← hal, ← hof]
  have hane : ¬all = 0 := by omega
  clear hp hq hR hps h0 hall hal hn hpool hof hok hnw hpo
  go_enter Try.func14, Try.ntmps14
  go_upto_region 1 with (fail)
  obtain ⟨s0, hs0⟩ : ∃ s0, s0 = w.heap.size := ⟨_, rfl⟩
  obtain ⟨W, hW⟩ : ∃ W, W = w.alloc (.cells #[.int .i64 pool, .slice p R.sides.length c, .slice q n d] 28) := ⟨_, rfl⟩
  have m0 : W.heap[s0]? = some (.cells #[.int .i64 pool, .slice p R.sides.length c, .slice q n d] 28) := by rw [hs0, hW]; exact heap_new _ _
  have hE : Ext w W := by rw [hW]; exact Ext.alloc (Ext.refl _) _
  rw [← hs0, ← hW]
  have a0 : W.cell? ⟨s0, 0, none⟩ = some (.int .i64 pool) := cell_of_heap m0 0
  have a1 : W.cell? ⟨s0, 1, none⟩ = some (.slice p R.sides.length c) := cell_of_heap m0 1
  have a2 : W.cell? ⟨s0, 2, none⟩ = some (.slice q n d) := cell_of_heap m0 2
  have HE := Lib.hid hE
  have HM0 := Lib.hid m0
  have HWG := Lib.hid (HWG.out W hE)
  clear hW m0 hE hs0
  go_upto_region 2 with (go_at_call 27; refine HWG.out.mono ?_; rintro e W2 ⟨g, rfl, hE2, hI2⟩)
  obtain ⟨s1, hs1⟩ : ∃ s1, s1 = W2.heap.size := ⟨_, rfl⟩
  obtain ⟨W3, hW3⟩ : ∃ W3, W3 = W2.alloc (.cells #[.slice (some ⟨g, 0, none⟩) n n, .int .i64 all] 78) := ⟨_, rfl⟩
  have m3 : W3.heap[s1]? = some (.cells #[.slice (some ⟨g, 0, none⟩) n n, .int .i64 all] 78) := by rw [hs1, hW3]; exact heap_new _ _
  have hE3 : Ext W2 W3 := by rw [hW3]; exact Ext.alloc (Ext.refl _) _
  rw [← hs1, ← hW3]
  have c0 : W3.cell? ⟨s1, 0, none⟩ = some (.slice (some ⟨g, 0, none⟩) n n) := cell_of_heap m3 0
  have c1 : W3.cell? ⟨s1, 1, none⟩ = some (.int .i64 all) := cell_of_heap m3 1
  have b0 : W3.cell? ⟨s0, 0, none⟩ = some (.int .i64 pool) := cell_of_heap (heap_ext3 HM0.out (hE2.trans hE3)) 0
  have HS3 := Lib.hid (HSH.out W3 g (hI2.ext hE3))
  have HE3 := Lib.hid (HE.out.trans (hE2.trans hE3))
  clear hs1 hW3 m3 hE3 hE2 hI2 a0 a1 a2
  go_wp2_with (go_at_call 28; refine HS3.out.mono ?_; rintro e W4 ⟨g4, l4, rfl, hl4, hE4, hS4, hI4⟩)
  have HF := Lib.hid (⟨hl4, HE3.out.trans hE4, hS4, hI4⟩ : _ ∧ _ ∧ _ ∧ _)
  clear hl4 hE4 hS4 hI4
  go_ret2
  exact ⟨g4, l4, rfl, HF.out⟩
end Go.Proofs.Ytppncdbhebgcaaa
