/- The walk of Good. -/
import Derived.Test.YtkcilgjkdiopnaaW3h
namespace Go.Proofs.Ytkcilgjkdiopnaa
open Go.RowKit
attribute [local go_sem] Oper.semAt_some

/-- a record is worn too much at the end of week k -/
def badAt (X : Wr) (l : List Wk) (k : Nat) : Bool := (List.range X.recs.length).any fun i => decide ((recW X i).limit < (runTo X l (k + 1)).worn i)
def firstBad (X : Wr) (l : List Wk) : Int := match (List.range l.length).find? (badAt X l) with | some k => k | none => -1
theorem firstBad_some {X : Wr} {l : List Wk} {k : Nat} (hk : k < l.length) (hb : badAt X l k = true) (h : ∀ j, j < k → badAt X l j = false) : firstBad X l = k := by
  have : (List.range l.length).find? (badAt X l) = some k := by
    rw [List.find?_range_eq_some]
    exact ⟨hb, by simpa using hk, fun j hj => by simp [h j hj]⟩
  unfold firstBad
  rw [this]
theorem firstBad_none {X : Wr} {l : List Wk} (h : ∀ j, j < l.length → badAt X l j = false) : firstBad X l = -1 := by
  have : (List.range l.length).find? (badAt X l) = none := by
    rw [List.find?_range_eq_none]
    exact fun j hj => by simp [h j hj]
  unfold firstBad
  rw [this]

noncomputable def goodV (X : Wr) (l : List Wk) : Value :=
  if bP (ValidW X) = true then (if bP (PlanOK X l) = true then .tuple #[.bool (decide (firstBad X l < 0)), .int .i64 (firstBad X l), .int .i64 0] else .tuple #[.bool false, .int .i64 0, .int .i64 1]) else .tuple #[.bool false, .int .i64 0, .int .i64 30]
theorem goodV_ok {X : Wr} {l : List Wk} (h : ValidW X) (k : PlanOK X l) : goodV X l = .tuple #[.bool (decide (firstBad X l < 0)), .int .i64 (firstBad X l), .int .i64 0] := by rw [goodV, if_pos (bP_t h), if_pos (bP_t k)]
theorem goodV_arg {X : Wr} {l : List Wk} (h : ValidW X) (k : ¬PlanOK X l) : goodV X l = .tuple #[.bool false, .int .i64 0, .int .i64 1] := by rw [goodV, if_pos (bP_t h), if_neg (by rw [bP_f k]; simp)]
theorem goodV_bad {X : Wr} {l : List Wk} (h : ¬ValidW X) : goodV X l = .tuple #[.bool false, .int .i64 0, .int .i64 30] := by rw [goodV, if_neg (by rw [bP_f h]; simp)]

/-- the three results in cells from block B on -/
structure ResAt (B : Nat) (a : Bool) (b e : Int) (W : World) : Prop where
  r0 : W.heap[B]? = some (.cells #[.bool a] 4 (0, 0))
  r1 : W.heap[B + 1]? = some (.cells #[.int .i64 b] 3 (0, 0))
  r2 : W.heap[B + 2]? = some (.cells #[.int .i64 e] 32 (0, 0))
theorem ResAt.fr {B : Nat} {a : Bool} {b e : Int} {w w' : World} {E : Nat → Prop} (h : ResAt B a b e w) (hF : Fr E w w') (hn : ∀ k, k < 3 → ¬E (B + k)) : ResAt B a b e w' :=
  ⟨(hF.block _ (Array.getElem?_eq_some_iff.1 h.r0).1 (hn 0 (by decide))).trans h.r0, (hF.block _ (Array.getElem?_eq_some_iff.1 h.r1).1 (hn 1 (by decide))).trans h.r1, (hF.block _ (Array.getElem?_eq_some_iff.1 h.r2).1 (hn 2 (by decide))).trans h.r2⟩
theorem ResAt.below {B M : Nat} {a : Bool} {b e : Int} {w w' : World} (h : ResAt B a b e w) (hF : Below M w w') (hn : B + 2 < M) : ResAt B a b e w' :=
  ⟨(hF.block _ (by omega)).trans h.r0, (hF.block _ (by omega)).trans h.r1, (hF.block _ (by omega)).trans h.r2⟩

theorem resGood {B : Nat} {a : Bool} {b e : Int} {W : World} (h : ResAt B a b e W) {tmps : Array Value} (h4 : tmps.getD 4 undef = .pointer (some ⟨B, 0, none⟩)) (h5 : tmps.getD 5 undef = .pointer (some ⟨B + 1, 0, none⟩)) (h6 : tmps.getD 6 undef = .pointer (some ⟨B + 2, 0, none⟩)) :
    (results Try.f23 tmps).run Try.prog W = .ok (.tuple #[.bool a, .int .i64 b, .int .i64 e]) W := by
  have c0 := cell_of_heap h.r0 0
  have c1 := cell_of_heap h.r1 0
  have c2 := cell_of_heap h.r2 0
  simp at c0 c1 c2 h4 h5 h6
  simp [results, Try.results23, go_sem, h4, h5, h6, c0, c1, c2]

set_option maxRecDepth 20000 in
set_option maxHeartbeats 3200000 in
theorem GoodErr03 (X : Wr) (p q pp : Option Addr) (c d n pc : Nat) (er : Int) (w : World) (her : (er != 0) = true)
    (hBeg : ∀ w', Ext w w' → Calls Try.prog 58 #[.agg #[.int .i64 X.weeks, .int .i64 X.price, .int .i64 X.age, .int .i64 X.step, .slice p X.rough.length c, .slice q X.recs.length d], .slice pp n pc] w' (RetE (.tuple #[zeroBx, .int .i64 er]) w')) :
    Calls Try.prog 23 #[.agg #[.int .i64 X.weeks, .int .i64 X.price, .int .i64 X.age, .int .i64 X.step, .slice p X.rough.length c, .slice q X.recs.length d], .slice pp n pc] w (RetE (.tuple #[.bool false, .int .i64 0, .int .i64 er]) w) := by
  unfold zeroBx at hBeg
  go_enter Try.func23, Try.ntmps23
  go_upto_region 1 with (fail)
  obtain ⟨W, hW⟩ : ∃ W, W = (((w.alloc (.cells #[.int .i64 X.weeks, .int .i64 X.price, .int .i64 X.age, .int .i64 X.step, .slice p X.rough.length c, .slice q X.recs.length d] 25)).alloc (.cells #[.bool false] 4)).alloc (.cells #[.int .i64 0] 3)).alloc (.cells #[.int .i64 0] 32) := ⟨_, rfl⟩
  have hn : W.heap[w.heap.size]? = some (.cells #[.int .i64 X.weeks, .int .i64 X.price, .int .i64 X.age, .int .i64 X.step, .slice p X.rough.length c, .slice q X.recs.length d] 25) := by rw [hW]; exact heap_old _ (heap3_0 _ _ _ _)
  have hres : ResAt (w.heap.size + 1) false 0 0 W := by
    rw [hW]
    refine ⟨heap_old _ (heap3_1 _ _ _ _), heap_old _ (heap3_2 _ _ _ _), ?_⟩
    have := heap_new (((w.alloc (.cells #[.int .i64 X.weeks, .int .i64 X.price, .int .i64 X.age, .int .i64 X.step, .slice p X.rough.length c, .slice q X.recs.length d] 25)).alloc (.cells #[.bool false] 4)).alloc (.cells #[.int .i64 0] 3)) (.cells #[.int .i64 0] 32)
    simpa only [size_alloc] using this
  have hE : Ext w W := by rw [hW]; exact Ext.alloc (Ext.alloc (Ext.alloc (Ext.alloc (Ext.refl w) _) _) _) _
  have hsW : W.heap.size = w.heap.size + 4 := by rw [hW]; simp only [size_alloc]
  rw [← hW]
  have q0 := cell_of_heap hn 0
  have q1 := cell_of_heap hn 1
  have q2 := cell_of_heap hn 2
  have q3 := cell_of_heap hn 3
  have q4 := cell_of_heap hn 4
  have q5 := cell_of_heap hn 5
  simp at q0 q1 q2 q3 q4 q5
  have HE := Lib.hid hE
  have HRES := Lib.hid hres
  clear hW hn hres
  have HBW := Lib.hid (hBeg W hE)
  clear hBeg hE
  obtain ⟨B, hBB⟩ : ∃ B, B = w.heap.size + 1 := ⟨_, rfl⟩
  rw [← hBB] at HRES
  rw [← hBB, show B + 1 + 1 = B + 2 from rfl]
  have hwB : w.heap.size ≤ B := by omega
  have hBW : B + 2 < W.heap.size := by omega
  clear hBB
  have HRC : Hid (∀ z, Ext W z → z.cell? ⟨B + 2, 0, none⟩ = some (.int .i64 0) ∧ z.frozen? ⟨B + 2, 0, none⟩ = false) := Lib.hid fun z hz =>
    ⟨(cell_of_heap ((Below.block hz (B + 2) (by omega)).trans HRES.out.r2) 0).trans rfl, cell_frozen ((Below.block hz (B + 2) (by omega)).trans HRES.out.r2) 0⟩
  go_upto_region 2 with (go_at_call 58; refine HBW.out.mono ?_; rintro e W2 ⟨rfl, hE2⟩; have hrf := fun o => (HRC.out (W2.alloc o) (Ext.alloc hE2 o)).2; have hrc := fun o => (HRC.out (W2.alloc o) (Ext.alloc hE2 o)).1; have hsE := hE2.size)
  obtain ⟨W3, hW3⟩ : ∃ W3, W3 = (W2.alloc (.cells #[.int .i64 0, .int .i64 0, .int .i64 0, .int .i64 0, .slice none 0 0, .slice none 0 0] 88)).setCell ⟨B + 2, 0, none⟩ (.int .i64 er) := ⟨_, rfl⟩
  rw [← hW3]
  have hF3 : Fr (fun k => k = B + 2) W W3 := by rw [hW3]; exact ((hE2.fr _).alloc _).set rfl
  have r3 : W3.heap[B + 2]? = some (.cells #[.int .i64 er] 32 (0, 0)) := by rw [hW3]; exact heap_set ((Below.block (Ext.alloc hE2 _) _ (by omega)).trans HRES.out.r2) rfl
  have r1 := (hF3.block B (by omega) (by omega)).trans HRES.out.r0
  have r2 := (hF3.block (B + 1) (by omega) (by omega)).trans HRES.out.r1
  have hE3 : Ext w W3 := Fr.ext HE.out hF3 (fun i hi => by omega)
  have hres3 : ResAt B false 0 er W3 := ⟨r1, r2, r3⟩
  have HR3 := Lib.hid hres3
  have HE3 := Lib.hid hE3
  have hc3 : W3.cell? ⟨B + 2, 0, none⟩ = some (.int .i64 er) := (cell_of_heap r3 0).trans rfl
  have hf1 := cell_frozen r1 0
  have hf2 := cell_frozen r2 0
  have hf3 := cell_frozen r3 0
  have hc1 : W3.cell? ⟨B, 0, none⟩ = some (.bool false) := (cell_of_heap r1 0).trans rfl
  have hc2 : W3.cell? ⟨B + 1, 0, none⟩ = some (.int .i64 0) := (cell_of_heap r2 0).trans rfl
  clear hW3 hF3 r3 r1 r2 hrf hrc hE2 HBW q0 q1 q2 q3 q4 q5 hres3 hE3
  go_upto_region 3 with (fail)
  go_region
  all_goals
    go_wp2
    refine bodyPost_ret (v := .tuple #[.bool false, .int .i64 0, .int .i64 er]) (resGood (B := B) ?_ rfl rfl rfl) rfl (RetE.fin ?_ rfl)
    · refine ⟨?_, ?_, ?_⟩
      · repeat (with_reducible (first | refine heap_drew ?_ | refine heap_set_ne (by omega) ?_ | apply heap_set | exact HR3.out.r0))
        all_goals rfl
      · repeat (with_reducible (first | refine heap_drew ?_ | refine heap_set_ne (by omega) ?_ | apply heap_set | exact HR3.out.r1))
        all_goals rfl
      · repeat (with_reducible (first | refine heap_drew ?_ | refine heap_set_ne (by omega) ?_ | apply heap_set | exact HR3.out.r2))
        all_goals rfl
    · repeat (with_reducible (first | refine Ext.drew ?_ | refine Ext.set ?_ (by omega) | exact HE3.out))

set_option maxRecDepth 20000 in
set_option maxHeartbeats 3200000 in
theorem Good03 (v : Value) (X : Wr) (pp : Option Addr) (l : List Wk) (pc : Nat) (w : World) (hv : WrV w v X) (hM : ModestW X) (hl : l.length ≤ 100000) (hr : ∀ x ∈ l, x.recs.length ≤ 100000) (h : WksAt w pp l) :
    Calls Try.prog 23 #[v, .slice pp l.length pc] w (RetE (goodV X l) w) := by
  have hB := fun w' (hw : Ext w w') => begin03 v X pp l pc w' (WrV.mono _ _ _ _ hw hv) hM hl hr (h.ext hw)
  obtain ⟨p, c, q, d, rfl, h1, h2⟩ := id hv
  by_cases hV : ValidW X
  case neg =>
    rw [goodV_bad hV]
    exact GoodErr03 X p q pp c d l.length pc 30 w rfl (fun w' hw => by have := hB w' hw; rwa [beginV_bad hV] at this)
  by_cases hPl : PlanOK X l
  case neg =>
    rw [goodV_arg hV hPl]
    exact GoodErr03 X p q pp c d l.length pc 1 w rfl (fun w' hw => by have := hB w' hw; rwa [beginV_arg hV hPl] at this)
  rw [goodV_ok hV hPl]
  have hBo := fun w' (hw : Ext w w') => (hB w' hw)
  rw [beginV_ok hV hPl] at hBo
  have HBO := Lib.hid hBo
  have HV := Lib.hid hV
  have HPO := Lib.hid hPl
  have HR2 := Lib.hid h2
  have HR1 := Lib.hid h1
  have HP := Lib.hid h
  clear hB hBo hv h1 h2 h hM hr hV hPl
  refine calls_of_marks Try.func23 rfl ?_
  simp only [Try.ntmps23, List.size_toArray, List.length_cons, List.length_nil, Nat.reduceAdd, Nat.reduceSub, Array.replicate_succ, Array.replicate_zero, List.push_toArray, List.append_toArray, List.nil_append, List.cons_append]
  go_upto_region 1 with (fail)
  obtain ⟨W, hW⟩ : ∃ W, W = (((w.alloc (.cells #[.int .i64 X.weeks, .int .i64 X.price, .int .i64 X.age, .int .i64 X.step, .slice p X.rough.length c, .slice q X.recs.length d] 25)).alloc (.cells #[.bool false] 4)).alloc (.cells #[.int .i64 0] 3)).alloc (.cells #[.int .i64 0] 32) := ⟨_, rfl⟩
  have hn : W.heap[w.heap.size]? = some (.cells #[.int .i64 X.weeks, .int .i64 X.price, .int .i64 X.age, .int .i64 X.step, .slice p X.rough.length c, .slice q X.recs.length d] 25) := by rw [hW]; exact heap_old _ (heap3_0 _ _ _ _)
  have hres : ResAt (w.heap.size + 1) false 0 0 W := by
    rw [hW]
    refine ⟨heap_old _ (heap3_1 _ _ _ _), heap_old _ (heap3_2 _ _ _ _), ?_⟩
    have := heap_new (((w.alloc (.cells #[.int .i64 X.weeks, .int .i64 X.price, .int .i64 X.age, .int .i64 X.step, .slice p X.rough.length c, .slice q X.recs.length d] 25)).alloc (.cells #[.bool false] 4)).alloc (.cells #[.int .i64 0] 3)) (.cells #[.int .i64 0] 32)
    simpa only [size_alloc] using this
  have hE : Ext w W := by rw [hW]; exact Ext.alloc (Ext.alloc (Ext.alloc (Ext.alloc (Ext.refl w) _) _) _) _
  have hsW : W.heap.size = w.heap.size + 4 := by rw [hW]; simp only [size_alloc]
  rw [← hW]
  have q0 := cell_of_heap hn 0
  have q1 := cell_of_heap hn 1
  have q2 := cell_of_heap hn 2
  have q3 := cell_of_heap hn 3
  have q4 := cell_of_heap hn 4
  have q5 := cell_of_heap hn 5
  simp at q0 q1 q2 q3 q4 q5
  have HE := Lib.hid hE
  have HRES := Lib.hid hres
  clear hW hn hres
  have HBW := Lib.hid (HBO.out W hE)
  clear HBO hE
  obtain ⟨B, hBB⟩ : ∃ B, B = w.heap.size + 1 := ⟨_, rfl⟩
  rw [← hBB] at HRES
  rw [← hBB, show B + 1 + 1 = B + 2 from rfl]
  have hwB : w.heap.size ≤ B := by omega
  have hBW : B + 2 < W.heap.size := by omega
  clear hBB
  have HRC : Hid (∀ z, Ext W z → z.cell? ⟨B + 2, 0, none⟩ = some (.int .i64 0) ∧ z.frozen? ⟨B + 2, 0, none⟩ = false) := Lib.hid fun z hz =>
    ⟨(cell_of_heap ((Below.block hz (B + 2) (by omega)).trans HRES.out.r2) 0).trans rfl, cell_frozen ((Below.block hz (B + 2) (by omega)).trans HRES.out.r2) 0⟩
  have HRC : Hid (∀ z, Ext W z → z.cell? ⟨B + 2, 0, none⟩ = some (.int .i64 0) ∧ z.frozen? ⟨B + 2, 0, none⟩ = false) := Lib.hid fun z hz =>
    ⟨(cell_of_heap ((Below.block hz (B + 2) (by omega)).trans HRES.out.r2) 0).trans rfl, cell_frozen ((Below.block hz (B + 2) (by omega)).trans HRES.out.r2) 0⟩
  go_upto_region 2 with (go_at_call 58; refine HBW.out.mono ?_; rintro e W2 ⟨rfl, hE2⟩; have hrf := fun o => (HRC.out (W2.alloc o) (Ext.alloc hE2 o)).2; have hrc := fun o => (HRC.out (W2.alloc o) (Ext.alloc hE2 o)).1; have hsE := hE2.size)
  obtain ⟨W3, hW3⟩ : ∃ W3, W3 = (W2.alloc (bxO X p c q d)).setCell ⟨B + 2, 0, none⟩ (.int .i64 0) := ⟨_, rfl⟩
  have hbx3 : W3.heap[W2.heap.size]? = some (bxO X p c q d) := by rw [hW3]; exact heap_set_ne (by omega) (heap_new _ _)
  have hF3 : Fr (fun k => k = B + 2) W W3 := by rw [hW3]; exact ((hE2.fr _).alloc _).set rfl
  have r3 : W3.heap[B + 2]? = some (.cells #[.int .i64 0] 32 (0, 0)) := by rw [hW3]; exact heap_set ((Below.block (Ext.alloc hE2 _) _ (by omega)).trans HRES.out.r2) rfl
  have r1 := (hF3.block B (by omega) (by omega)).trans HRES.out.r0
  have r2 := (hF3.block (B + 1) (by omega) (by omega)).trans HRES.out.r1
  have hres3 : ResAt B false 0 0 W3 := ⟨r1, r2, r3⟩
  have hE3 : Ext w W3 := Fr.ext HE.out hF3 (fun i hi => by omega)
  unfold bxO at hW3
  rw [← hW3]
  obtain ⟨b7, hb7⟩ : ∃ b7, b7 = W2.heap.size := ⟨_, rfl⟩
  rw [← hb7] at hbx3 ⊢
  have hb7l : b7 < W3.heap.size := (Array.getElem?_eq_some_iff.1 hbx3).1
  have hBb7 : B + 2 < b7 := by omega
  have hc3 : W3.cell? ⟨B + 2, 0, none⟩ = some (.int .i64 0) := (cell_of_heap r3 0).trans rfl
  clear hW3 hF3 r3 r1 r2 hrf hrc hE2 HBW q0 q1 q2 q3 q4 q5 hb7
  go_upto_region 5 with (fail)
  obtain ⟨W5, hW5⟩ : ∃ W5, W5 = W3.alloc (.cells #[.slice none 0 0, .int .i64 0, .int .i64 0] 93) := ⟨_, rfl⟩
  have hst := heap_new W3 (.cells #[.slice none 0 0, .int .i64 0, .int .i64 0] 93)
  have hE35 : Ext W3 W5 := by rw [hW5]; exact Ext.alloc (Ext.refl _) _
  have hs5 : W5.heap.size = W3.heap.size + 1 := by rw [hW5]; simp only [size_alloc]
  rw [← hW5] at hst ⊢
  obtain ⟨s, hs⟩ : ∃ s, s = W3.heap.size := ⟨_, rfl⟩
  rw [← hs] at hst ⊢
  have hbx := (Below.block hE35 b7 hb7l).trans hbx3
  have hres5 : ResAt B false 0 0 W5 := hres3.fr (hE35.fr (fun _ => False)) (fun _ _ h => h)
  have b0 := cell_of_heap hbx 0
  have b1 := cell_of_heap hbx 1
  have b2 := cell_of_heap hbx 2
  have b3 := cell_of_heap hbx 3
  have b4 := cell_of_heap hbx 4
  have b5 := cell_of_heap hbx 5
  simp at b0 b1 b2 b3 b4 b5
  have hws : w.heap.size ≤ s := by omega
  have hsW : s < W5.heap.size := by omega
  have hsb7 : b7 < s := by omega
  have hE5 := hE3.trans hE35
  have HRUN := Lib.hid (run03 X p q pp c d pc l.length s W5 HV.out hst (fun w' hw' => HR2.out.ext (Fr.ext hE5 hw' (fun i hi => by omega))))
  have HE5 := Lib.hid hE5
  have HRES5 := Lib.hid hres5
  have HBX := Lib.hid hbx
  clear hW5 hbx hst hE5 hs5 hs hE35 hE3 hbx3 hres3 hres5 hc3 HRES HE
  go_wp2_with (go_at_call 59; refine HRUN.out.mono ?_; rintro e W6 ⟨rfl, hb0, hb1, hb2, ⟨u, hsu⟩, hF6⟩)
  have hEW6 : Ext w W6 := Fr.ext HE5.out hF6 (fun i hi => by omega)
  have hz56 := hF6.size
  have hz6 : W5.heap.size + 3 ≤ W6.heap.size := by
    have := (Array.getElem?_eq_some_iff.1 hb2).1
    omega
  have hub : ∀ g, u.ownBlock = some g → W5.heap.size + 3 ≤ g ∧ g < W6.heap.size := fun g hg => hsu.2.lt g hg
  have HIT : Hid (ItAt X l p q pp c d pc W5.heap.size s w W6) := Lib.hid ⟨hb0, hb1, hb2, hEW6⟩
  have hres6 : ResAt B false 0 0 W6 := HRES5.out.fr hF6 (fun k hk => by omega)
  have hbx6 := (hF6.block b7 (by omega) (by omega)).trans HBX.out
  have HSU := Lib.hid hsu
  have HE6 := Lib.hid hEW6
  have HUB := Lib.hid hub
  have HI6 : Hid (Ext w W6 ∧ ResAt B false 0 0 W6 ∧ W6.heap[b7]? = some (bxO X p c q d) ∧ ∀ j, j < ([] : List Nat).length → badAt X l j = false) := Lib.hid ⟨hEW6, hres6, hbx6, fun j hj => absurd hj (by simp)⟩
  clear hb0 hb1 hb2 hsu hF6 hEW6 hub HRUN b0 b1 b2 b3 b4 b5 hres6 hbx6 HRES5 HBX
  have HD : Hid (∀ k, Dst s u k → k < W6.heap.size ∧ w.heap.size ≤ k ∧ b7 < k) := Lib.hid fun k hk => by
    rcases hk with h | h
    · exact ⟨by omega, by omega, by omega⟩
    · have := HUB.out k h
      exact ⟨by omega, by omega, by omega⟩
  refine (wpIn_wide (n := 0)).1 ?_
  refine range_lawD (fst := #[]) (gf := 88) (cap := #[.pointer (some ⟨W5.heap.size + 2, 0, none⟩), .pointer (some ⟨W5.heap.size + 1, 0, none⟩), .pointer (some ⟨W5.heap.size, 0, none⟩)]) rfl Try.call88
    (fun k : Nat => .int .i64 (k : Int)) (fun k => k < l.length) (List.range l.length) (fun k => k = B ∨ k = B + 1 ∨ k = B + 2) (Dst s u) ?hE ?hD (Sst X l (W5.heap.size + 3) s u) (fun _ => True)
    (fun pre W => Ext w W ∧ ResAt B false 0 0 W ∧ W.heap[b7]? = some (bxO X p c q d) ∧ ∀ j, j < pre.length → badAt X l j = false)
    (fun cd pre W => cd = .ret ∧ Ext w W ∧ ∃ k : Nat, k < l.length ∧ badAt X l k = true ∧ (∀ j, j < k → badAt X l j = false) ∧ ResAt B false k 0 W)
    ?hI ?hIx (fun _ _ h _ => h) HI6.out ?hiter ?hround ?hdone ?hstop
  case hE => rintro k (h | h | h) <;> omega
  case hD => exact fun k h => (HD.out k h).1
  case hI =>
    rintro pre A C ⟨h1, h2, h3, h4⟩ hF hz
    refine ⟨Fr.ext h1 hF ?_, h2.fr hF ?_, (hF.block b7 (by omega) ?_).trans h3, h4⟩
    · rintro i (hi | hi)
      · exact (HD.out i hi).2.1
      · omega
    · rintro k hk (hi | hi)
      · have := (HD.out _ hi).2.2; omega
      · omega
    · rintro (hi | hi)
      · have := (HD.out _ hi).2.2; omega
      · omega
  case hIx =>
    rintro cc pre A C ⟨h0, h1, k, hk, hb, hn, h2⟩ hF hz
    refine ⟨h0, Fr.ext h1 hF ?_, k, hk, hb, hn, h2.fr hF ?_⟩
    · rintro i (hi | hi)
      · exact (HD.out i hi).2.1
      · omega
    · rintro k hk (hi | hi)
      · have := (HD.out _ hi).2.2; omega
      · omega
  case hiter =>
    intro lp J Jx hJ hJx hno hY A hA hz hj
    refine callsIn_wide.2 ?_
    refine (iter03 X HV.out l HPO.out p q pp c d pc W5.heap.size (W5.heap.size + 3) s u W6 (fun k => k = B ∨ k = B + 1 ∨ k = B + 2) lp w HIT.out HR2.out HR1.out HP.out HSU.out hws (by omega) hsW (Nat.le_refl _) (fun k h => ⟨by omega, fun hd => by have := (HD.out k hd).2.2; omega, by omega, by omega, by omega, by omega⟩) J Jx hJ hJx hY A hA hz hj).mono ?_
    rintro e W' ⟨h1, h2, h3⟩
    exact ⟨h1, h2.imp (fun h => ⟨h.1, trivial⟩) id, h3⟩
  case hround =>
    rintro lp pre x A hok hl ⟨hA, hres, hbx, hno⟩ hS hz
    have hx : x = pre.length := by
      have := hS.1
      rw [List.length_append, List.length_singleton, List.range_succ] at this
      have := List.append_inj_right' this rfl
      simpa using this
    have hst := hS.2
    rw [List.length_append, List.length_singleton, ← hx] at hst
    have h4 := HV.out.recs
    have HXX := Lib.hid hx
    clear hx
    gi_wp2
    refine ⟨Ext.refl _, fun W2 hW2 => ?_⟩
    have hF2 : Fr (fun k => k = lp) A W2 := hW2.fr rfl
    have hst2 : StAt X.recs.length (W5.heap.size + 3) s u (runTo X l (x + 1)) W2 := hst.fr hF2 (by omega) (fun g hg e => by have := (HUB.out g hg).2; omega)
    have hres2 : ResAt B false 0 0 W2 := hres.fr hF2 (fun k hk => by omega)
    have hbx2 := (hF2.block b7 (by omega) (by omega)).trans hbx
    have hE2 : Ext w W2 := Fr.ext hA hF2 (fun i hi => by have := HE6.out.size; omega)
    have c5 : W2.cell? ⟨b7, 5, none⟩ = some (.slice q X.recs.length d) := (cell_of_heap hbx2 5).trans rfl
    have HST := Lib.hid hst2
    have HRES := Lib.hid hres2
    have HBX := Lib.hid hbx2
    have HE2 := Lib.hid hE2
    have HNO := Lib.hid hno
    clear hF2 hst2 hres2 hbx2 hE2 hst hS hA hres hbx hno hW2
    gi_wp2
    gi_loopw [29] (fun i wr => ∃ j : Nat, j ≤ X.recs.length ∧ i = .int .i64 j ∧ (∀ i, i < j → (runTo X l (x + 1)).worn i ≤ (recW X i).limit) ∧ Ext W2 wr) (fun i _ => X.recs.length - (intOf i).toNat)
    case atStart => exact ⟨0, by omega, rfl, fun i hi => absurd hi (by omega), Ext.refl _⟩
    case round =>
      obtain ⟨j, hj, rfl, hle, hEr⟩ := hrel
      have HLE := Lib.hid hle
      have HER := Lib.hid hEr
      have hEw := HE2.out.trans hEr
      clear hle hEr c5
      by_cases hlj : j < X.recs.length
      · obtain ⟨rb, ro, qb', cb, rfl, r1', r2', r3', r4', -⟩ := HR2.out j hlj
        have r1 := hEw.cell r1'
        have r2 := hEw.cell r2'
        have r3 := hEw.cell r3'
        have r4 := hEw.cell r4'
        have hst := HST.out.fr (HER.out.fr (fun _ => False)) (fun h => h) (fun _ _ h => h)
        obtain ⟨g, cap, rfl, hgc⟩ := ownsRow_at hst.2 j hlj
        have hgw := hgc.trans (wornL_get _ _ _ hlj)
        have s0 : wr.cell? ⟨s, 0, none⟩ = some (.slice (some ⟨g, 0, none⟩) X.recs.length cap) := (cell_of_heap hst.1 0).trans rfl
        have hlim : X.recs[j].limit = (recW X j).limit := by rw [recW_eq hlj]
        rw [hlim] at r2
        obtain ⟨wn, hwn⟩ : ∃ n, n = (runTo X l (x + 1)).worn j := ⟨_, rfl⟩
        obtain ⟨lm, hlm⟩ : ∃ n, n = (recW X j).limit := ⟨_, rfl⟩
        obtain ⟨v1, hv1⟩ : ∃ n, n = X.recs[j].worn := ⟨_, rfl⟩
        obtain ⟨v3, hv3⟩ : ∃ n, n = X.recs[j].price := ⟨_, rfl⟩
        obtain ⟨v4, hv4⟩ : ∃ n, n = X.recs[j].plays.length := ⟨_, rfl⟩
        rw [← hwn] at hgw
        rw [← hlm] at r2
        rw [← hv1] at r1
        rw [← hv3] at r3
        rw [← hv4] at r4
        have HWN := Lib.hid hwn
        have HLM := Lib.hid hlm
        clear r1' r2' r3' r4' hst hgc hwn hlm hv1 hv3 hv4 hlim
        gi_wp2
        obtain ⟨H, hH⟩ : ∃ H, H = wr.heap.size := ⟨_, rfl⟩
        have hn9 := heap_new wr (.cells #[.int .i64 v1, .int .i64 lm, .int .i64 v3, .slice qb' v4 cb] 54)
        obtain ⟨W9, hW9⟩ : ∃ W9, W9 = wr.alloc (.cells #[.int .i64 v1, .int .i64 lm, .int .i64 v3, .slice qb' v4 cb] 54) := ⟨_, rfl⟩
        have hE9 : Ext wr W9 := by rw [hW9]; exact Ext.alloc (Ext.refl _) _
        rw [← hW9, ← hH] at hn9
        rw [← hW9, ← hH]
        have t0 := ExtW.cell (hE9.cell s0)
        have t1 := ExtW.cell (hE9.cell hgw)
        have t2 := ExtW.cell (v := .int .i64 lm) (cell_of_heap hn9 1)
        have HE9 := Lib.hid (HER.out.trans hE9)
        clear hW9 hn9 hE9 r1 r2 r3 r4 s0 hgw hH
        by_cases hbad : lm < wn
        · have hbad' : decide (lm < wn) = true := by simpa using hbad
          have HBAD := Lib.hid hbad
          clear hbad
          refine wpIn_region_round (w0 := W9) (x := ⟨W9, Ext.refl _⟩) (by kernel_rfl) (by kernel_rfl) (by kernel_rfl) ?_
          repeat (go_big_quiet_step (fail))
          refine wpQuiet_nil ?_
          rintro _ ⟨y1, rfl⟩
          have hEy : Ext W2 y1.w := HE9.out.trans y1.h
          have hresy := HRES.out.fr (hEy.fr (fun _ => False)) (fun _ _ h => h)
          have HRY := Lib.hid hresy
          have HEY := Lib.hid hEy
          have e0 : y1.w.cell? ⟨B, 0, none⟩ = some (.bool false) := (cell_of_heap hresy.r0 0).trans rfl
          have e1 : y1.w.cell? ⟨B + 1, 0, none⟩ = some (.int .i64 0) := (cell_of_heap hresy.r1 0).trans rfl
          have e2 : y1.w.cell? ⟨B + 2, 0, none⟩ = some (.int .i64 0) := (cell_of_heap hresy.r2 0).trans rfl
          have g0 := cell_frozen hresy.r0 0
          have g1 := cell_frozen hresy.r1 0
          have g2 := cell_frozen hresy.r2 0
          clear hresy hEy t0 t1 t2
          gi_wp2
          refine and_dep (((HEY.out.fr _).set (.inl rfl)).set (.inr (.inl rfl)) |>.set (.inr (.inr rfl))) (fun hx => ⟨rfl, Fr.ext HE2.out hx (fun i hi => by omega), x, hok, ?_, ?_, ?_⟩)
          · simp only [badAt, List.any_eq_true, List.mem_range, decide_eq_true_eq]
            exact ⟨j, hlj, by rw [← HLM.out, ← HWN.out]; exact HBAD.out⟩
          · intro i hi
            exact HNO.out i (by rw [← HXX.out]; exact hi)
          · refine ⟨?_, ?_, ?_⟩
            · exact heap_set_ne (by omega) (heap_set_ne (by omega) (heap_set HRY.out.r0 rfl))
            · exact heap_set_ne (by omega) (heap_set (heap_set_ne (by omega) HRY.out.r1) rfl)
            · exact heap_set (heap_set_ne (by omega) (heap_set_ne (by omega) HRY.out.r2)) rfl
        · have hbad' : decide (lm < wn) = false := by simpa using hbad
          have HBAD := Lib.hid hbad
          clear hbad
          refine wpIn_region_round (w0 := W9) (x := ⟨W9, Ext.refl _⟩) (by kernel_rfl) (by kernel_rfl) (by kernel_rfl) ?_
          repeat (go_big_quiet_step (fail))
          refine wpQuiet_nil ?_
          rintro _ ⟨y1, rfl⟩
          gi_wp2
          go_roundw
          case rel =>
            refine ⟨j + 1, by omega, by go_num, fun i hi => ?_, HE9.out.trans y1.h⟩
            by_cases e : i < j
            · exact HLE.out i e
            · obtain rfl : i = j := by omega
              rw [← HLM.out, ← HWN.out]
              have := HBAD.out
              omega
          case measure => simp [intOf]; omega
      · obtain rfl : j = X.recs.length := by omega
        gi_wp2
        have hgood : badAt X l x = false := by
          simp only [badAt, List.any_eq_false, List.mem_range, decide_eq_true_eq, Int.not_lt]
          exact HLE.out
        refine ⟨HER.out.fr _, hEw, HRES.out.fr (HER.out.fr (fun _ => False)) (fun _ _ h => h), (Below.block HER.out b7 (Array.getElem?_eq_some_iff.1 HBX.out).1).trans HBX.out, fun i hi => ?_⟩
        rw [List.length_append, List.length_singleton, ← HXX.out] at hi
        by_cases e : i = x
        · rw [e]; exact hgood
        · exact HNO.out i (by have := HXX.out; omega)
  case hdone =>
    rintro A ⟨hA, hres, hbx, hno⟩ - hd
    have HA := Lib.hid hA
    have HRES := Lib.hid hres
    have HNO := Lib.hid hno
    have HDD := Lib.hid hd
    have e0 : A.cell? ⟨B, 0, none⟩ = some (.bool false) := (cell_of_heap hres.r0 0).trans rfl
    have e1 : A.cell? ⟨B + 1, 0, none⟩ = some (.int .i64 0) := (cell_of_heap hres.r1 0).trans rfl
    have e2 : A.cell? ⟨B + 2, 0, none⟩ = some (.int .i64 0) := (cell_of_heap hres.r2 0).trans rfl
    have g0 := cell_frozen hres.r0 0
    have g1 := cell_frozen hres.r1 0
    have g2 := cell_frozen hres.r2 0
    have HFB : Hid (firstBad X l = -1) := Lib.hid (firstBad_none (fun j hj => hno j (by simpa using hj)))
    have hsz := HE6.out.size
    clear hA hres hbx hno hd
    go_wp2
    refine marks_ret (v := .tuple #[.bool true, .int .i64 (-1), .int .i64 0]) (heap_set_ne (by omega) (heap_set_ne (by omega) (heap_set_ne (by omega) HDD.out))) (fun W' hW' => resGood (B := B) ?_ rfl rfl rfl) (fun W' hW' => RetE.fin ?_ (by rw [HFB.out]; rfl))
    · refine ResAt.below (M := W6.heap.size) ?_ (hW'.below (Nat.le_refl _)) (by omega)
      refine ⟨?_, ?_, ?_⟩
      · exact heap_set_ne (by omega) (heap_set_ne (by omega) (heap_set HRES.out.r0 rfl))
      · exact heap_set_ne (by omega) (heap_set (heap_set_ne (by omega) HRES.out.r1) rfl)
      · exact heap_set (heap_set_ne (by omega) (heap_set_ne (by omega) HRES.out.r2)) rfl
    · refine Ext.trans' ?_ (hW'.below hsz)
      exact Ext.set (Ext.set (Ext.set HA.out (by omega)) (by omega)) (by omega)
  case hstop =>
    rintro cc pre A hpre ⟨rfl, hA, k, hk, hb, hn, hres⟩ hd
    have HFB : Hid (firstBad X l = k) := Lib.hid (firstBad_some hk hb hn)
    have hsz := HE6.out.size
    gi_wp2
    refine marks_ret (v := .tuple #[.bool false, .int .i64 k, .int .i64 0]) hd (fun W' hW' => resGood (B := B) ?_ rfl rfl rfl) (fun W' hW' => RetE.fin ?_ ?_)
    · exact ResAt.below (M := W6.heap.size) hres (hW'.below (Nat.le_refl _)) (by omega)
    · exact hA.trans' (hW'.below hsz)
    · have : decide ((k : Int) < 0) = false := by simp
      rw [HFB.out, this]
end Go.Proofs.Ytkcilgjkdiopnaa
