/- The walk of the reference's play: a week is played. -/
import Derived.Test.YtkcilgjkdiopnaaVI
namespace Go.Proofs.Ytkcilgjkdiopnaa
open Go.RowKit

/-- what records are worn behind a week -/
def playF (X : Wr) (s : Nat → Int) (a : Int) (wk : Nat) (j : Nat) : Int := s j + grindW X (a + sumWk X wk j) (playsW X wk j).toNat
/-- in the midst of it: records before i are played, record i so often -/
def midF (X : Wr) (s : Nat → Int) (a : Int) (wk i n : Nat) (j : Nat) : Int := if j < i then playF X s a wk j else if j = i then s j + grindW X (a + sumWk X wk j) n else s j
theorem midF_zero (X : Wr) (s : Nat → Int) (a : Int) (wk : Nat) : midF X s a wk 0 0 = s := by
  funext j
  unfold midF
  by_cases e : j = 0
  · subst e; simp [grindW]
  · simp [e]
theorem midF_next (X : Wr) (s : Nat → Int) (a : Int) (wk i : Nat) : midF X s a wk i (playsW X wk i).toNat = midF X s a wk (i + 1) 0 := by
  funext j
  unfold midF
  by_cases e : j < i
  · rw [if_pos e, if_pos (by omega)]
  · rw [if_neg e]
    by_cases e2 : j = i
    · subst e2; rw [if_pos rfl, if_pos (by omega)]; rfl
    · rw [if_neg e2, if_neg (by omega)]
      by_cases e3 : j = i + 1
      · subst e3; rw [if_pos rfl]; simp [grindW]
      · rw [if_neg e3]
theorem midF_step (X : Wr) (s : Nat → Int) (a : Int) (wk i n : Nat) : updI (midF X s a wk i n) i (midF X s a wk i n i + roughW X (a + sumWk X wk i + n)) = midF X s a wk i (n + 1) := by
  funext j
  unfold updI
  by_cases e : j = i
  · subst e
    rw [if_pos rfl]
    unfold midF
    simp only [Nat.lt_irrefl, if_false, if_true, grindW]
    omega
  · rw [if_neg e]
    unfold midF
    by_cases e2 : j < i
    · rw [if_pos e2, if_pos e2]
    · rw [if_neg e2, if_neg e2, if_neg e, if_neg e]
theorem midF_done (X : Wr) (s : Nat → Int) (a : Int) (wk n : Nat) : wornL n (midF X s a wk n 0) = wornL n (playF X s a wk) := by
  unfold wornL
  refine List.map_congr_left (fun j hj => ?_)
  unfold midF
  rw [if_pos (List.mem_range.1 hj)]
theorem grind_bd {X : Wr} (hX : ValidW X) (a : Int) : ∀ n : Nat, 0 ≤ grindW X a n ∧ grindW X a n ≤ 99 * n
  | 0 => by simp [grindW]
  | n + 1 => by
    have h1 := grind_bd hX a n
    have h2 : 0 ≤ roughW X (a + n) ∧ roughW X (a + n) ≤ 99 := by
      unfold roughW
      by_cases h : roughI X (a + n) < X.rough.length
      · simp only [List.getD_eq_getElem?_getD]
        rw [List.getElem?_eq_getElem h]
        exact hX.rg _ h
      · simp only [List.getD_eq_getElem?_getD]
        rw [List.getElem?_eq_none (by omega)]
        decide
    simp only [grindW]
    omega
theorem midF_bd {X : Wr} (hX : ValidW X) {s : Nat → Int} {V : Int} (hs : ∀ j, 0 ≤ s j ∧ s j ≤ V) (a : Int) (wk i : Nat) {n : Nat} (hn : n ≤ 99) (j : Nat) : 0 ≤ midF X s a wk i n j ∧ midF X s a wk i n j ≤ V + 9801 := by
  have h1 := hs j
  have h2 := grind_bd hX (a + sumWk X wk j) (playsW X wk j).toNat
  have h3 := grind_bd hX (a + sumWk X wk j) n
  have h4 := playsW_bd hX wk j
  unfold midF playF
  split
  · omega
  · split <;> omega

/-- an empty row of ints -/
def Emp (B : Nat) (v : Value) (lo hi : Nat) (w : World) : Prop := B ≤ lo ∧ v = .slice (some ⟨lo, 0, none⟩) 0 0 ∧ lo < hi ∧ w.ownsRow lo 3 1 (.slice (some ⟨lo, 0, none⟩) 0 0) 0 [] ∧ lo < w.heap.size
theorem Emp.mono {B : Nat} : ∀ v s t w w', Ext w w' → Emp B v s t w → Emp B v s t w' := fun _ _ _ _ _ hE ⟨h0, h1, h2, h3, h4⟩ => ⟨h0, h1, h2, ownsRow_ext h3 hE, Nat.lt_of_lt_of_le h4 hE.size⟩
/-- a row of ints of its own -/
def RowF (B : Nat) (l : List Int) (v : Value) (_ _ : Nat) (w : World) : Prop := ∃ g cap, v = .slice (some ⟨g, 0, none⟩) l.length cap ∧ B ≤ g ∧ w.ownsRow g 3 1 (.slice (some ⟨g, 0, none⟩) l.length cap) l.length (intVs l)
theorem RowF.mono {B : Nat} {l : List Int} : ∀ v s t w w', Ext w w' → RowF B l v s t w → RowF B l v s t w' := fun _ _ _ _ _ hE ⟨g, c, h1, h2, h3⟩ => ⟨g, c, h1, h2, ownsRow_ext h3 hE⟩
def RowA (B : Nat) (l : List Int) (a : Int) (v : Value) (_ _ : Nat) (w : World) : Prop := ∃ g cap, v = .agg #[.slice (some ⟨g, 0, none⟩) l.length cap, .int .i64 a] ∧ B ≤ g ∧ w.ownsRow g 3 1 (.slice (some ⟨g, 0, none⟩) l.length cap) l.length (intVs l)
theorem RowA.mono {B : Nat} {l : List Int} {a : Int} : ∀ v s t w w', Ext w w' → RowA B l a v s t w → RowA B l a v s t w' := fun _ _ _ _ _ hE ⟨g, c, h1, h2, h3⟩ => ⟨g, c, h1, h2, ownsRow_ext h3 hE⟩
/-- a new block -/
def NewB (o : Obj) (v : Value) (lo hi : Nat) (w : World) : Prop := v = .pointer (some ⟨lo, 0, none⟩) ∧ lo < hi ∧ w.heap[lo]? = some o
theorem heap_extB {x y : World} {b : Nat} {o : Obj} (h : x.heap[b]? = some o) (hE : Ext x y) : y.heap[b]? = some o := (Below.block hE b (Array.getElem?_eq_some_iff.1 h).1).trans h
theorem NewB.mono {o : Obj} : ∀ v s t w w', Ext w w' → NewB o v s t w → NewB o v s t w' := fun _ _ _ _ _ hE ⟨h1, h2, h3⟩ => ⟨h1, h2, heap_extB h3 hE⟩
theorem row_block {w : World} {g c n : Nat} {xs : List Value} (h : w.ownsRow g 3 1 (.slice (some ⟨g, 0, none⟩) n c) n xs) : ∃ cur f, w.heap[g]? = some (.cells cur 3 f) := by
  rcases h.2 with ⟨h0, -⟩ | ⟨g', cap, cur, hv, -, hg, -⟩
  · cases h0
  · cases hv; exact ⟨cur, _, hg⟩

set_option maxRecDepth 20000 in
set_option maxHeartbeats 8000000 in
theorem playR03 (v : Value) (X : Wr) (s : Nat → Int) (a : Int) (qs : Option Addr) (cs wk : Nat) (w : World) (hv : WrV w v X) (hX : ValidW X) (hwk : (wk : Int) < X.weeks) (hs : ∀ j, 0 ≤ s j ∧ s j ≤ 1000000) (ha : 0 ≤ a ∧ a ≤ 100000)
    (hq : IntsAt w qs (wornL X.recs.length s)) :
    Calls Try.prog 90 #[v, .agg #[.slice qs X.recs.length cs, .int .i64 a], .int .i64 wk] w (fun e w' => ∃ g cap, e = .returned (.agg #[.slice (some ⟨g, 0, none⟩) X.recs.length cap, .int .i64 (a + sumWk X wk X.recs.length)]) ∧ Ext w w' ∧ w.heap.size ≤ g ∧
      IntsAt w' (some ⟨g, 0, none⟩) (wornL X.recs.length (playF X s a wk))) := by
  obtain ⟨p, c, q, d, rfl, hR, hG⟩ := hv
  have hx4 := hX.recs
  have HX := Lib.hid hX
  have HSS := Lib.hid hs
  have HR := Lib.hid hR
  have HG := Lib.hid hG
  have HQ := Lib.hid hq
  have HWK := Lib.hid hwk
  have hlen : (wornL X.recs.length s).length = X.recs.length := wornL_len _ _
  have HLEN := Lib.hid hlen
  clear hX hs hR hG hq hwk hlen
  go_enter Try.func90, Try.ntmps90
  go_upto_region 1 with (fail)
  obtain ⟨W, hW⟩ : ∃ W, W = ((w.alloc (.cells #[.int .i64 X.weeks, .int .i64 X.price, .int .i64 X.age, .int .i64 X.step, .slice p X.rough.length c, .slice q X.recs.length d] 25)).alloc (.cells #[.slice qs X.recs.length cs, .int .i64 a] 100)).alloc (.cells #[.slice none 0 0, .int .i64 0] 100) := ⟨_, rfl⟩
  have hb0 : W.heap[w.heap.size]? = some (.cells #[.int .i64 X.weeks, .int .i64 X.price, .int .i64 X.age, .int .i64 X.step, .slice p X.rough.length c, .slice q X.recs.length d] 25) := by rw [hW]; exact heap3_0 w _ _ _
  have hb1 : W.heap[w.heap.size + 1]? = some (.cells #[.slice qs X.recs.length cs, .int .i64 a] 100) := by rw [hW]; exact heap3_1 w _ _ _
  have hb2 : W.heap[w.heap.size + 2]? = some (.cells #[.slice none 0 0, .int .i64 0] 100) := by rw [hW]; exact heap3_2 w _ _ _
  have hE : Ext w W := by rw [hW]; exact Ext.alloc (Ext.alloc (Ext.alloc (Ext.refl w) _) _) _
  have hsW : W.heap.size = w.heap.size + 3 := by rw [hW]; simp only [size_alloc]
  rw [← hW]
  have HS := Lib.hid (fun y (h : Ext W y) => (⟨h.cell ((cell_of_heap hb1 0).trans rfl), h.cell ((cell_of_heap hb1 1).trans rfl)⟩ : y.cell? ⟨w.heap.size + 1, 0, none⟩ = some (.slice qs X.recs.length cs) ∧ y.cell? ⟨w.heap.size + 1, 1, none⟩ = some (.int .i64 a)))
  have HB0 := Lib.hid hb0
  have HB2 := Lib.hid hb2
  have HE := Lib.hid hE
  have HSW := Lib.hid hsW
  clear hW hb0 hb1 hb2 hE hsW
  refine wp_region_facts 8 [[], [], [1], [0, 1, 2], [], [4], [3, 5], []] [6, 7] Ext
    (FL [Emp W.heap.size, Is (.pointer (some ⟨w.heap.size + 1, 0, none⟩)), Is (.slice qs X.recs.length cs), RowF W.heap.size (wornL X.recs.length s), Is (.pointer (some ⟨w.heap.size + 1, 1, none⟩)), Is (.int .i64 a), RowA W.heap.size (wornL X.recs.length s) a, NewB (.cells #[.slice none 0 0, .int .i64 0] 100)])
    (by kernel_rfl) (by kernel_rfl) Ext.refl (fun _ _ _ => Ext.trans) (fun _ _ => Ext.size) (FL.mono ⟨Emp.mono, Is.mono, Is.mono, RowF.mono, Is.mono, Is.mono, RowA.mono, NewB.mono, trivial⟩) ⟨?_, ?_, ?_, ?_, ?_, ?_, ?_, ?_, trivial⟩ ?_
  · refine opF_step ?_
    intro ys lo hi w' hr hf K hK
    clear hf
    simp only [fill, Act.put, dstO, List.take_succ_cons, List.take_zero, List.setIfInBounds_toArray, List.set_cons_zero, List.set_cons_succ, List.getElem?_cons_zero, Nat.zero_add, Nat.reduceAdd] at hK ⊢
    refine OpB.mk' ?_
    go_simp
    exact hK.out _ _ ⟨hr.size, rfl, by rw [size_alloc]; omega, World.ownsRow_made w' #[] 0 (Nat.le_refl _) (by decide) rfl, by rw [size_alloc]; omega⟩ (Ext.alloc (Ext.refl _) _)
  · refine opF_step ?_
    intro ys lo hi w' hr hf K hK
    clear hf
    simp only [fill, Act.put, dstO, List.take_succ_cons, List.take_zero, List.setIfInBounds_toArray, List.set_cons_zero, List.set_cons_succ, List.getElem?_cons_zero, List.getElem?_cons_succ, Nat.zero_add, Nat.reduceAdd] at hK ⊢
    refine OpB.mk' ?_
    go_simp
    exact hK.out _ _ rfl (Ext.refl _)
  · refine opF_step ?_
    intro ys lo hi w' hr hf K hK
    obtain ⟨f1, -⟩ := hf
    have e1 : ys 1 = _ := f1
    obtain ⟨s0, s1⟩ := HS.out _ ((Ext.refl W).drew.trans hr)
    simp only [fill, Act.put, dstO, List.take_succ_cons, List.take_zero, List.setIfInBounds_toArray, List.set_cons_zero, List.set_cons_succ, List.getElem?_cons_zero, List.getElem?_cons_succ, Nat.zero_add, Nat.reduceAdd] at hK ⊢
    simp only [e1] at hK ⊢
    refine OpB.mk' ?_
    go_simp
    exact hK.out _ _ rfl (Ext.refl _)
  · refine opF_step ?_
    intro ys lo hi w' hr hf K hK
    obtain ⟨⟨hB0, e0, -, ho, hl⟩, f1, f2, -⟩ := hf
    have e2 : ys 2 = _ := f2
    simp only [fill, Act.put, dstO, List.take_succ_cons, List.take_zero, List.setIfInBounds_toArray, List.set_cons_zero, List.set_cons_succ, List.getElem?_cons_zero, List.getElem?_cons_succ, Nat.zero_add, Nat.reduceAdd] at hK ⊢
    simp only [e0, e2] at hK ⊢
    refine OpB.mk' ?_
    refine step_row_e rfl (.tmp 10) (.tmp 12) rfl (lo 0) rfl qs (wornL X.recs.length s) cs (by rw [HLEN.out]; rfl) ho (HQ.out.ext (HE.out.trans ((Ext.refl W).drew.trans hr))) (by rw [HLEN.out]; omega) ?_
    intro g1 c1 w9 ho9 hE9 ha9 hl9
    have hrs : W.heap.size ≤ w'.heap.size := hr.size
    exact hK.out _ _ ⟨g1, c1, rfl, by omega, ho9⟩ hE9
  · refine opF_step ?_
    intro ys lo hi w' hr hf K hK
    clear hf
    simp only [fill, Act.put, dstO, List.take_succ_cons, List.take_zero, List.setIfInBounds_toArray, List.set_cons_zero, List.set_cons_succ, List.getElem?_cons_zero, List.getElem?_cons_succ, Nat.zero_add, Nat.reduceAdd] at hK ⊢
    refine OpB.mk' ?_
    go_simp
    exact hK.out _ _ rfl (Ext.refl _)
  · refine opF_step ?_
    intro ys lo hi w' hr hf K hK
    obtain ⟨f1, -⟩ := hf
    have e1 : ys 4 = _ := f1
    obtain ⟨s0, s1⟩ := HS.out _ ((Ext.refl W).drew.trans hr)
    simp only [fill, Act.put, dstO, List.take_succ_cons, List.take_zero, List.setIfInBounds_toArray, List.set_cons_zero, List.set_cons_succ, List.getElem?_cons_zero, List.getElem?_cons_succ, Nat.zero_add, Nat.reduceAdd] at hK ⊢
    simp only [e1] at hK ⊢
    refine OpB.mk' ?_
    go_simp
    exact hK.out _ _ rfl (Ext.refl _)
  · refine opF_step ?_
    intro ys lo hi w' hr hf K hK
    obtain ⟨⟨g, cap, e3, hB, ho⟩, f5, -⟩ := hf
    have e5 : ys 5 = _ := f5
    simp only [fill, Act.put, dstO, List.take_succ_cons, List.take_zero, List.setIfInBounds_toArray, List.set_cons_zero, List.set_cons_succ, List.getElem?_cons_zero, List.getElem?_cons_succ, Nat.zero_add, Nat.reduceAdd] at hK ⊢
    simp only [e3, e5] at hK ⊢
    refine OpB.mk' ?_
    go_simp
    exact hK.out _ _ ⟨g, cap, rfl, hB, ho⟩ (Ext.refl _)
  · refine opF_step ?_
    intro ys lo hi w' hr hf K hK
    clear hf
    simp only [fill, Act.put, dstO, List.take_succ_cons, List.take_zero, List.setIfInBounds_toArray, List.set_cons_zero, List.set_cons_succ, List.getElem?_cons_zero, List.getElem?_cons_succ, Nat.zero_add, Nat.reduceAdd] at hK ⊢
    refine OpB.mk' ?_
    go_simp
    exact hK.out _ _ ⟨rfl, by rw [size_alloc]; omega, heap_new w' _⟩ (Ext.alloc (Ext.refl _) _)
  intro ys lo hi F hr hf hsp
  obtain ⟨⟨g, cap, e6, hBg, hog⟩, ⟨e7, l7, hb7⟩, -⟩ := hf
  simp only [fill, Act.put, List.take_succ_cons, List.take_zero, List.setIfInBounds_toArray, List.set_cons_zero, List.set_cons_succ, Nat.zero_add, Nat.reduceAdd, List.drop_succ_cons, List.drop_zero]
  simp only [e6, e7]
  have hne : g ≠ lo 7 := fun e => by
    obtain ⟨cur, f, hc⟩ := row_block hog
    rw [e, hb7] at hc
    simp at hc
  have a7 := hsp.le 7 (by omega)
  obtain ⟨bp, hbp⟩ : ∃ bp, bp = lo 7 := ⟨_, rfl⟩
  rw [← hbp] at hb7 hne a7 ⊢
  rw [HLEN.out] at hog ⊢
  have hF0 : Ext W F := (Ext.refl W).drew.trans hr
  have c0 : F.cell? ⟨bp, 0, none⟩ = some (.slice none 0 0) := (cell_of_heap hb7 0).trans rfl
  have c1 : F.cell? ⟨bp, 1, none⟩ = some (.int .i64 0) := (cell_of_heap hb7 1).trans rfl
  have cf := fun i => cell_frozen hb7 i
  have HOG := Lib.hid hog
  have HB7 := Lib.hid hb7
  have HF0 := Lib.hid hF0
  have hbW : W.heap.size ≤ bp := a7.1
  have HNE := Lib.hid hne
  clear hog hb7 hF0 hbp a7 hsp e6 e7 l7 hr hne
  go_upto_region 2 with (fail)
  generalize hW5 : World.setCell _ _ _ = W5
  have hF5 : Fr (fun k => k = bp) F W5 := by rw [← hW5]; exact ((Fr.refl (fun k => k = bp) F).set rfl).set rfl
  have hb5 : W5.heap[bp]? = some (.cells #[.slice (some ⟨g, 0, none⟩) X.recs.length cap, .int .i64 a] 100) := by rw [← hW5]; exact heap_set2 HB7.out
  have ho5 := ownsRow_fr HOG.out hF5 (fun e he => by cases he; exact HNE.out)
  have hE5 : Ext W W5 := Fr.ext HF0.out hF5 (fun i hi => by have e : i = bp := hi; omega)
  have hs5 : bp < W5.heap.size := (Array.getElem?_eq_some_iff.1 hb5).1
  have HB5 := Lib.hid hb5
  have HO5 := Lib.hid ho5
  have HE5 := Lib.hid hE5
  clear hW5 hF5 hb5 ho5 hE5 c0 c1 cf HOG HB7 HF0
  go_wp2
  go_loopw [8] (fun i wr => ∃ k : Nat, k ≤ X.recs.length ∧ i = .int .i64 k ∧ wr.ownsRow g 3 1 (.slice (some ⟨g, 0, none⟩) X.recs.length cap) X.recs.length (intVs (wornL X.recs.length (midF X s a wk k 0))) ∧
    wr.heap[bp]? = some (.cells #[.slice (some ⟨g, 0, none⟩) X.recs.length cap, .int .i64 (a + sumWk X wk k)] 100) ∧ Ext W wr) (fun i _ => X.recs.length - (intOf i).toNat)
  case atStart => exact ⟨0, Nat.zero_le _, rfl, by rw [midF_zero]; exact HO5.out, by simp only [sumWk, Int.add_zero]; exact HB5.out, HE5.out⟩
  case round =>
    obtain ⟨k, hk, rfl, ho, hb, hEr⟩ := hrel
    have hb0 := heap_extB HB0.out hEr
    have d5 : wr.cell? ⟨w.heap.size, 5, none⟩ = some (.slice q X.recs.length d) := (cell_of_heap hb0 5).trans rfl
    have HO := Lib.hid ho
    have HBR := Lib.hid hb
    have HER := Lib.hid hEr
    clear ho hb hEr hb0 HO5 HB5 HE5
    by_cases hlt : k < X.recs.length
    · obtain ⟨b, o, q', c', rfl, -, -, -, h4, h5⟩ := HG.out k hlt
      have hkl := (HX.out.rc k hlt).len
      have hwl : wk < X.recs[k].plays.length := by have := HWK.out; omega
      obtain ⟨b2, o2, rfl, h6⟩ := h5.at wk hwl
      have hpv : X.recs[k].plays[wk] = playsW X wk k := by
        unfold playsW
        rw [recW_eq hlt]
        simp [List.getD, hwl]
      have hpb := playsW_bd HX.out wk k
      obtain ⟨pn, hpn⟩ : ∃ pn : Nat, playsW X wk k = pn := ⟨(playsW X wk k).toNat, by omega⟩
      rw [hpv, hpn] at h6
      rw [hpn] at hpb
      have HPN := Lib.hid hpn
      have HH4 := Lib.hid h4
      have HH6 := Lib.hid h6
      have hwlI : (wk : Int) < (X.recs[k].plays.length : Int) := by omega
      obtain ⟨pl, hpl⟩ : ∃ pl, pl = X.recs[k].plays.length := ⟨_, rfl⟩
      rw [← hpl] at HH4 hwlI
      have hltI : (k : Int) < (X.recs.length : Int) := by omega
      clear h4 h5 h6 hpv hpn hkl hwl hpl
      go_wp2
      go_loopw [9] (fun i wr => ∃ n : Nat, n ≤ pn ∧ i = .int .i64 n ∧ wr.ownsRow g 3 1 (.slice (some ⟨g, 0, none⟩) X.recs.length cap) X.recs.length (intVs (wornL X.recs.length (midF X s a wk k n))) ∧
        wr.heap[bp]? = some (.cells #[.slice (some ⟨g, 0, none⟩) X.recs.length cap, .int .i64 (a + sumWk X wk k + n)] 100) ∧ Ext W wr) (fun i _ => pn - (intOf i).toNat)
      case atStart => exact ⟨0, Nat.zero_le _, rfl, HO.out, by simpa using HBR.out, HER.out⟩
      case round =>
        obtain ⟨n, hn, rfl, ho, hb, hEn⟩ := hrel
        have hb0 := heap_extB HB0.out hEn
        have hEw := HE.out.trans hEn
        have d3 : wr.cell? ⟨w.heap.size, 3, none⟩ = some (.int .i64 X.step) := (cell_of_heap hb0 3).trans rfl
        have d4 : wr.cell? ⟨w.heap.size, 4, none⟩ = some (.slice p X.rough.length c) := (cell_of_heap hb0 4).trans rfl
        have d5 : wr.cell? ⟨w.heap.size, 5, none⟩ = some (.slice (some ⟨b, o, none⟩) X.recs.length d) := (cell_of_heap hb0 5).trans rfl
        have d6 := hEw.cell HH4.out
        have d7 := hEw.cell HH6.out
        have hsb := sumWk_bd HX.out wk k
        obtain ⟨A, hA⟩ : ∃ A, A = a + sumWk X wk k + n := ⟨_, rfl⟩
        have hA0 : 0 ≤ A ∧ A ≤ 200000 := by omega
        rw [← hA] at hb
        have HO := Lib.hid ho
        have HBN := Lib.hid hb
        have HEN := Lib.hid hEn
        have HAA := Lib.hid hA
        have hi := roughI_lt HX.out hA0.1
        obtain ⟨rb, ro, rfl, hrc⟩ := HR.out.at (roughI X A) hi
        rw [← roughW_eq HX.out hA0.1] at hrc
        have hrbd : 0 ≤ roughW X A ∧ roughW X A ≤ 99 := by have := grind_bd HX.out A 1; simp only [grindW] at this; simpa using this
        have hs2 := midF_bd HX.out HSS.out a wk k (n := n) (by omega) k
        clear ho hb hEn hb0 hA hsb HER HBR
        by_cases hnlt : n < pn
        · have hst := HX.out.step
          have hrl := HX.out.rough
          have hq : Int.tdiv A X.step = A / X.step := Int.tdiv_eq_ediv_of_nonneg hA0.1
          have hz : ¬X.step = 0 := by omega
          have hq0 : 0 ≤ A / X.step := Int.ediv_nonneg hA0.1 (by omega)
          have hq1 : A / X.step ≤ A := Int.ediv_le_self _ hA0.1
          have hI : roughI X A = (min (A / X.step) ((X.rough.length : Int) - 1)).toNat := rfl
          obtain ⟨qq, hqq⟩ : ∃ qq, qq = A / X.step := ⟨_, rfl⟩
          rw [← hqq] at hq hq0 hq1 hI
          obtain ⟨r, hRr⟩ : ∃ r, r = roughW X A := ⟨_, rfl⟩
          obtain ⟨ii, hii⟩ : ∃ ii, ii = roughI X A := ⟨_, rfl⟩
          rw [← hRr] at hrc hrbd
          rw [← hii] at hrc hI hi
          have hw1 : IntKind.i64.wrap ((X.rough.length : Int) - 1) = (X.rough.length : Int) - 1 := by rw [IntKind.wrap_i64]; omega
          have hw2 : IntKind.i64.wrap qq = qq := by rw [IntKind.wrap_i64]; omega
          have hif : (if (X.rough.length : Int) - 1 < qq then (X.rough.length : Int) - 1 else qq) = (ii : Int) := by split <;> omega
          obtain ⟨sv, hsv⟩ : ∃ sv, sv = midF X s a wk k n k := ⟨_, rfl⟩
          rw [← hsv] at hs2
          have hw3 : IntKind.i64.wrap (sv + r) = sv + r := IntWalk.i64_in _ (by omega)
          obtain ⟨g', cg', heg, hgc⟩ := ownsRow_at HO.out k hlt
          cases heg
          rw [wornL_get _ _ _ hlt, ← hsv] at hgc
          have hgf := ownsRow_frozen (i := k) HO.out
          have e0 : wr.cell? ⟨bp, 0, none⟩ = some (.slice (some ⟨g, 0, none⟩) X.recs.length cap) := (cell_of_heap HBN.out 0).trans rfl
          have e1 : wr.cell? ⟨bp, 1, none⟩ = some (.int .i64 A) := (cell_of_heap HBN.out 1).trans rfl
          have hrcw := hEw.cell hrc
          have hiI : (ii : Int) < (X.rough.length : Int) := by omega
          have HSV := Lib.hid hsv
          have HRR := Lib.hid hRr
          clear hI hqq hii hsv hRr hrc hEw hi hst hrl
          go_upto_region 8 with (fail)
          go_still_tail 21, (by kernel_rfl)
          change wpList _ _ _ _ _ wr.drew
          obtain ⟨wd, hwd⟩ : ∃ wd, wd = wr.drew := ⟨_, rfl⟩
          have hEd : Ext wr wd := by rw [hwd]; exact (Ext.refl wr).drew
          have hod := ownsRow_ext HO.out hEd
          have hbd := heap_extB HBN.out hEd
          have g1 := hEd.cell hgc
          have g2 : wd.frozen? ⟨g, k, none⟩ = false := by rw [hwd]; exact hgf
          have e0' := hEd.cell e0
          have e1' := hEd.cell e1
          have HEd := Lib.hid (HEN.out.trans hEd)
          have HOD := Lib.hid hod
          have HBD := Lib.hid hbd
          rw [← hwd]
          clear hwd hEd hod hbd hgc hgf e0 e1 d3 d4 d5 d6 d7 hw1 hw2 hif hrcw HO HBN HEN
          have hgne : bp ≠ g := fun e => HNE.out e.symm
          go_upto_region 9 with (fail)
          have hsr := ownsRow_setV (i := k) (u := .int .i64 (sv + r)) HOD.out
          rw [wornL_set, HSV.out, HRR.out, HAA.out, midF_step] at hsr
          have hbr := heap_set_ne (o := k) (u := .int .i64 (sv + r)) hgne HBD.out
          have hgW : W.heap.size ≤ g := hBg
          have hEr2 : Ext W (wd.setCell ⟨g, k, none⟩ (.int .i64 (sv + r))) := HEd.out.setCell (p := ⟨g, k, none⟩) hgW _
          obtain ⟨We, hWe⟩ : ∃ We, We = wd.setCell ⟨g, k, none⟩ (.int .i64 (sv + r)) := ⟨_, rfl⟩
          rw [← hWe] at hbr hEr2 ⊢
          rw [← HAA.out, ← HSV.out, ← HRR.out, ← hWe] at hsr
          have e1 : We.cell? ⟨bp, 1, none⟩ = some (.int .i64 A) := (cell_of_heap hbr 1).trans rfl
          have ef : We.frozen? ⟨bp, 1, none⟩ = false := cell_frozen hbr 1
          have HSR := Lib.hid hsr
          have HBR2 := Lib.hid hbr
          have HER2 := Lib.hid hEr2
          clear hsr hbr hEr2 hWe g1 g2 e0' e1' hw3 HOD HBD HEd
          go_wp2
          have hsr3 := ownsRow_fr HSR.out ((Fr.refl (fun i => i = bp) We).set (o := 1) (u := .int .i64 (A + 1)) rfl) (fun e he => by cases he; exact HNE.out)
          have hb3 : (We.setCell ⟨bp, 1, none⟩ (.int .i64 (A + 1))).heap[bp]? = some (.cells #[.slice (some ⟨g, 0, none⟩) X.recs.length cap, .int .i64 (A + 1)] 100) := heap_set HBR2.out rfl
          have hE3 : Ext W (We.setCell ⟨bp, 1, none⟩ (.int .i64 (A + 1))) := HER2.out.setCell (p := ⟨bp, 1, none⟩) hbW _
          have HS3 := Lib.hid hsr3
          have HB3 := Lib.hid hb3
          have HE3 := Lib.hid hE3
          clear hsr3 hb3 hE3 e1 ef
          go_roundw
          case rel => exact ⟨n + 1, by omega, by go_num, HS3.out, by
            have h := HB3.out
            rw [HAA.out] at h
            rw [HAA.out, show a + sumWk X wk k + ((n + 1 : Nat) : Int) = a + sumWk X wk k + n + 1 by omega]
            exact h, HE3.out⟩
          case measure => simp [intOf]; omega
        · obtain rfl : n = pn := by omega
          go_wp2
          go_roundw
          case rel => exact ⟨k + 1, by omega, by go_num, by rw [← midF_next, HPN.out]; simpa using HO.out, by
            have := HBN.out
            rw [HAA.out, ← HPN.out] at this
            simpa only [sumWk, Int.add_assoc] using this, HEN.out⟩
          case measure => simp [intOf]; omega
    · obtain rfl : k = X.recs.length := by omega
      have d0 : wr.cell? ⟨bp, 0, none⟩ = some (.slice (some ⟨g, 0, none⟩) X.recs.length cap) := (cell_of_heap HBR.out 0).trans rfl
      have d1 : wr.cell? ⟨bp, 1, none⟩ = some (.int .i64 (a + sumWk X wk X.recs.length)) := (cell_of_heap HBR.out 1).trans rfl
      have hz := heap_extB HB2.out HER.out
      have z0 : wr.cell? ⟨w.heap.size + 2, 0, none⟩ = some (.slice none 0 0) := (cell_of_heap hz 0).trans rfl
      have z1 : wr.cell? ⟨w.heap.size + 2, 1, none⟩ = some (.int .i64 0) := (cell_of_heap hz 1).trans rfl
      have fz := fun i => cell_frozen hz i
      have HZ := Lib.hid hz
      clear hz
      go_wp2
      generalize hW9 : World.setCell _ _ _ = W9
      have hF9 : Fr (fun k => k = w.heap.size + 2) wr W9 := by rw [← hW9]; exact ((Fr.refl (fun k => k = w.heap.size + 2) wr).set rfl).set rfl
      have h9 : W9.heap[w.heap.size + 2]? = some (.cells #[.slice (some ⟨g, 0, none⟩) X.recs.length cap, .int .i64 (a + sumWk X wk X.recs.length)] 100) := by rw [← hW9]; exact heap_set2 HZ.out
      have hsw := HSW.out
      have hgB := (HO.out.lt g rfl).1
      have hEw9 : Ext w W9 := Fr.ext (HE.out.trans HER.out) hF9 (fun i hi => by have e : i = w.heap.size + 2 := hi; omega)
      have ho9 := ownsRow_fr HO.out hF9 (fun e he => by cases he; show ¬g = w.heap.size + 2; omega)
      have a0 := cell_of_heap h9 0
      have a1 := cell_of_heap h9 1
      simp at a0 a1
      refine bodyPost_ret (v := .agg #[.slice (some ⟨g, 0, none⟩) X.recs.length cap, .int .i64 (a + sumWk X wk X.recs.length)]) ?_ rfl ⟨g, cap, rfl, hEw9, by omega, ?_⟩
      · simp [results, Try.results90, go_sem, a0, a1]
      · rw [midF_done] at ho9
        have hl := wornL_len X.recs.length (playF X s a wk)
        exact row_ints (l := wornL X.recs.length (playF X s a wk)) (c := cap) (B := g) (by rw [hl]; exact ho9)
end Go.Proofs.Ytkcilgjkdiopnaa
