/- The walk of Run. -/
import Derived.Test.YtkcilgjkdiopnaaW3g
namespace Go.Proofs.Ytkcilgjkdiopnaa
open Go.RowKit
attribute [local go_sem] Oper.semAt_some

theorem StAt.below {n B s M : Nat} {u : Value} {x : St} {w w' : World} (h : StAt n B s u x w) (hF : Below M w w') (h1 : s < M) (h2 : ∀ g, u.ownBlock = some g → g < M) : StAt n B s u x w' := by
  refine ⟨(hF.block s h1).trans h.1, h.2.1, ?_⟩
  rcases h.2.2 with h0 | ⟨g, cap, cur, hv, hb, hg, hr⟩
  · exact Or.inl h0
  · exact Or.inr ⟨g, cap, cur, hv, hb, (hF.block g (h2 g (by rw [hv]; rfl))).trans hg, hr⟩

/-- what Run returns -/
def RunPost (X : Wr) (l : List Wk) (w : World) (e : Ending) (w' : World) : Prop :=
  Ext w w' ∧ ((ValidW X ∧ PlanOK X l ∧ ∃ v, e = .returned (.tuple #[v, .int .i64 (runTo X l l.length).age, .int .i64 (runTo X l l.length).cost, .int .i64 0]) ∧ IntsV w' v (wornL X.recs.length (runTo X l l.length).worn)) ∨
    (ValidW X ∧ ¬PlanOK X l ∧ e = .returned (.tuple #[.slice none 0 0, .int .i64 0, .int .i64 0, .int .i64 1])) ∨
    (¬ValidW X ∧ e = .returned (.tuple #[.slice none 0 0, .int .i64 0, .int .i64 0, .int .i64 30])))

theorem results_tmp4 {fn : Func} {t u v x : Tmp} (h : fn.results = #[.tmp t, .tmp u, .tmp v, .tmp x]) (tmps : Array Value) (P : Program) (w : World) :
    (results fn tmps).run P w = .ok (.tuple #[tmps.getD t undef, tmps.getD u undef, tmps.getD v undef, tmps.getD x undef]) w := by
  simp [results, h]
theorem noMarks_ret {P : Program} {fn : Func} {R : Ending → World → Prop} {tmps : Array Value} {W : World} {v : Value} (hr : (results fn tmps).run P W = .ok v W) (h : R (.returned v) W) :
    bodyPostM WF 0 P fn R .ret { tmps, defers := [] } W := ⟨v, hr, h⟩

set_option maxRecDepth 20000 in
set_option maxHeartbeats 3200000 in
theorem Run03 (v : Value) (X : Wr) (pp : Option Addr) (l : List Wk) (pc : Nat) (w : World) (hv : WrV w v X) (hM : ModestW X) (hl : l.length ≤ 100000) (hr : ∀ x ∈ l, x.recs.length ≤ 100000) (h : WksAt w pp l) :
    Calls Try.prog 21 #[v, .slice pp l.length pc] w (RunPost X l w) := by
  have hB := fun w' (hw : Ext w w') => begin03 v X pp l pc w' (WrV.mono _ _ _ _ hw hv) hM hl hr (h.ext hw)
  obtain ⟨p, c, q, d, rfl, h1, h2⟩ := id hv
  have HB := Lib.hid hB
  have HR2 := Lib.hid h2
  have HR1 := Lib.hid h1
  have HP := Lib.hid h
  clear hB hv h1 h2 h hM hr
  refine calls_of_marks Try.func21 rfl ?_
  simp only [Try.ntmps21, List.size_toArray, List.length_cons, List.length_nil, Nat.reduceAdd, Nat.reduceSub, Array.replicate_succ, Array.replicate_zero, List.push_toArray, List.append_toArray, List.nil_append, List.cons_append]
  go_upto_region 1 with (fail)
  have hn := heap_new w (.cells #[.int .i64 X.weeks, .int .i64 X.price, .int .i64 X.age, .int .i64 X.step, .slice p X.rough.length c, .slice q X.recs.length d] 25)
  obtain ⟨W, hW⟩ : ∃ W, W = w.alloc (.cells #[.int .i64 X.weeks, .int .i64 X.price, .int .i64 X.age, .int .i64 X.step, .slice p X.rough.length c, .slice q X.recs.length d] 25) := ⟨_, rfl⟩
  have hE : Ext w W := by rw [hW]; exact Ext.alloc (Ext.refl w) _
  rw [← hW] at hn ⊢
  have q0 := cell_of_heap hn 0
  have q1 := cell_of_heap hn 1
  have q2 := cell_of_heap hn 2
  have q3 := cell_of_heap hn 3
  have q4 := cell_of_heap hn 4
  have q5 := cell_of_heap hn 5
  simp at q0 q1 q2 q3 q4 q5
  have HE := Lib.hid hE
  clear hW hn
  have HBW := Lib.hid (HB.out W hE)
  clear HB hE
  by_cases hV : ValidW X
  case neg =>
    rw [beginV_bad hV] at HBW
    have HV := Lib.hid hV
    clear hV
    unfold zeroBx at HBW
    go_wp2_with (go_at_call 58; refine HBW.out.mono ?_; rintro e w' ⟨rfl, hE2⟩)
    refine noMarks_ret (v := .tuple #[.slice none 0 0, .int .i64 0, .int .i64 0, .int .i64 30]) (results_tmp4 (t := 4) (u := 5) (v := 6) (x := 7) rfl _ _ _) ⟨?_, .inr (.inr ⟨HV.out, rfl⟩)⟩
    have := HE.out.trans hE2
    repeat (with_reducible (first | refine Ext.drew ?_ | refine Ext.alloc ?_ _ | exact this))
  by_cases hP : PlanOK X l
  case neg =>
    rw [beginV_arg hV hP] at HBW
    have HV := Lib.hid hV
    have HPO := Lib.hid hP
    clear hV hP
    unfold zeroBx at HBW
    go_wp2_with (go_at_call 58; refine HBW.out.mono ?_; rintro e w' ⟨rfl, hE2⟩)
    refine noMarks_ret (v := .tuple #[.slice none 0 0, .int .i64 0, .int .i64 0, .int .i64 1]) (results_tmp4 (t := 4) (u := 5) (v := 6) (x := 7) rfl _ _ _) ⟨?_, .inr (.inl ⟨HV.out, HPO.out, rfl⟩)⟩
    have := HE.out.trans hE2
    repeat (with_reducible (first | refine Ext.drew ?_ | refine Ext.alloc ?_ _ | exact this))
  rw [beginV_ok hV hP] at HBW
  have HV := Lib.hid hV
  have HPO := Lib.hid hP
  clear hV hP
  go_upto_region 5 with (go_at_call 58; refine HBW.out.mono ?_; rintro e W2 ⟨rfl, hE2⟩)
  obtain ⟨W5, hW5⟩ : ∃ W5, W5 = (W2.alloc (bxO X p c q d)).alloc (.cells #[.slice none 0 0, .int .i64 0, .int .i64 0] 93) := ⟨_, rfl⟩
  have hbx := heap_new1 W2 (bxO X p c q d) (.cells #[.slice none 0 0, .int .i64 0, .int .i64 0] 93)
  have hst := heap_new2 W2 (bxO X p c q d) (.cells #[.slice none 0 0, .int .i64 0, .int .i64 0] 93)
  rw [← hW5] at hbx hst
  have hE5 : Ext w W5 := by rw [hW5]; exact Ext.alloc (Ext.alloc (HE.out.trans hE2) _) _
  have hs5 : W5.heap.size = W2.heap.size + 2 := by rw [hW5]; simp only [size_alloc]
  unfold bxO at hW5 hbx
  rw [← hW5]
  obtain ⟨s, hs⟩ : ∃ s, s = W2.heap.size + 1 := ⟨_, rfl⟩
  have b0 := cell_of_heap hbx 0
  have b1 := cell_of_heap hbx 1
  have b2 := cell_of_heap hbx 2
  have b3 := cell_of_heap hbx 3
  have b4 := cell_of_heap hbx 4
  have b5 := cell_of_heap hbx 5
  simp at b0 b1 b2 b3 b4 b5
  rw [← hs] at hst ⊢
  have hws : w.heap.size ≤ s := by have := HE.out.size; have := hE2.size; omega
  have hsW : s < W5.heap.size := by omega
  have HRUN := Lib.hid (run03 X p q pp c d pc l.length s W5 HV.out hst (fun w' hw' => HR2.out.ext (Fr.ext hE5 hw' (fun i hi => by omega))))
  have HE5 := Lib.hid hE5
  clear hW5 hbx hst hE5 hs5 hs hE2 q0 q1 q2 q3 q4 q5
  clear HBW
  go_wp2_with (go_at_call 59; refine HRUN.out.mono ?_; rintro e W6 ⟨rfl, hb0, hb1, hb2, ⟨u, hsu⟩, hF6⟩)
  have hEW6 : Ext w W6 := Fr.ext HE5.out hF6 (fun i hi => by omega)
  have hz56 := hF6.size
  have hz5 := HE5.out.size
  have hz6 : W5.heap.size + 3 ≤ W6.heap.size := by
    have := (Array.getElem?_eq_some_iff.1 hb2).1
    omega
  have hub : ∀ g, u.ownBlock = some g → W5.heap.size + 3 ≤ g ∧ g < W6.heap.size := fun g hg => hsu.2.lt g hg
  have HIT : Hid (ItAt X l p q pp c d pc W5.heap.size s w W6) := Lib.hid ⟨hb0, hb1, hb2, hEW6⟩
  have HSU := Lib.hid hsu
  have HE6 := Lib.hid hEW6
  have HUB := Lib.hid hub
  clear hb0 hb1 hb2 hsu hF6 hEW6 hub HRUN b0 b1 b2 b3 b4 b5
  refine (wpIn_wide (n := 0)).1 ?_
  refine range_lawD (fst := #[]) (gf := 88) (cap := #[.pointer (some ⟨W5.heap.size + 2, 0, none⟩), .pointer (some ⟨W5.heap.size + 1, 0, none⟩), .pointer (some ⟨W5.heap.size, 0, none⟩)]) rfl Try.call88
    (fun k : Nat => .int .i64 (k : Int)) (fun k => k < l.length) (List.range l.length) (fun _ => False) (Dst s u) (fun _ h => h.elim) ?hD (Sst X l (W5.heap.size + 3) s u) (StAt X.recs.length (W5.heap.size + 3) s u (runTo X l l.length)) (fun _ W => Ext w W) (fun _ _ _ => False)
    ?hI (fun _ _ _ _ h _ _ => h) ?hF HE6.out ?hiter ?hround ?hdone (fun _ _ _ _ h _ => h.elim)
  case hD =>
    rintro k (h | h)
    · omega
    · exact (HUB.out k h).2
  case hI =>
    intro pre A C h hF hz
    refine Fr.ext h hF ?_
    rintro i ((hi | hi) | hi)
    · omega
    · have := HUB.out i hi; omega
    · omega
  case hF =>
    intro A C h hB
    exact h.below hB (by omega) (fun g hg => (HUB.out g hg).2)
  case hiter =>
    intro lp J Jx hJ hJx hno hY A hA hz hj
    refine callsIn_wide.2 ?_
    refine (iter03 X HV.out l HPO.out p q pp c d pc W5.heap.size (W5.heap.size + 3) s u W6 (fun _ => False) lp w HIT.out HR2.out HR1.out HP.out HSU.out hws (by omega) hsW (Nat.le_refl _) (fun _ h => h.elim) J Jx hJ hJx hY A hA hz hj).mono ?_
    rintro e W' ⟨h1, h2, h3⟩
    exact ⟨h1, h2, h3⟩
  case hround =>
    intro lp pre x A hok hl hI hS hz
    gi_wp2
    refine ⟨Ext.refl _, fun W2 hW2 => ?_⟩
    gi_wp2
    exact ⟨Fr.refl _ _, hI.trans' (hW2.below (by rw [hl]; have := HE6.out.size; omega))⟩
  case hdone =>
    intro A hA hF hd
    have HA := Lib.hid hA
    have HF := Lib.hid hF
    have HD := Lib.hid hd
    have s0 := cell_of_heap hF.1 0
    have s1 := cell_of_heap hF.1 1
    have s2 := cell_of_heap hF.1 2
    simp at s0 s1 s2
    clear hA hF hd
    go_wp2
    go_quiet (fail)
    go_wp2
    refine marks_ret (v := .tuple #[u, .int .i64 (runTo X l l.length).age, .int .i64 (runTo X l l.length).cost, .int .i64 0]) HD.out (fun _ _ => results_tmp4 (t := 4) (u := 5) (v := 6) (x := 7) rfl _ _ _) (fun W' hW' => ?_)
    have hsz := HE6.out.size
    have hE' : Ext w W' := (HA.out.trans (Qt.ext (by repeat (first | exact Qt.refl _ | assumption | refine Qt.drewN ?_ _ | refine Qt.drew ?_)))).trans' (hW'.below hsz)
    refine ⟨hE', .inl ⟨HV.out, HPO.out, u, rfl, ?_⟩⟩
    have ho : W'.ownsRow (W5.heap.size + 3) 3 1 u X.recs.length (intVs (wornL X.recs.length (runTo X l l.length).worn)) :=
      ((HF.out.fr (Ext.fr (Qt.ext (w := A) (by repeat (first | exact Qt.refl _ | assumption | refine Qt.drewN ?_ _ | refine Qt.drew ?_))) (fun _ => False)) (fun h => h) (fun _ _ h => h)).below (M := W6.heap.size) (hW'.below (Nat.le_refl _)) (by omega) (fun g hg => (HUB.out g hg).2)).2
    have h1 := ownsRow_ints (l := wornL X.recs.length (runTo X l l.length).worn) (v := u) (B := W5.heap.size + 3) (w := W') (by rw [wornL_len]; exact ho)
    exact h1
end Go.Proofs.Ytkcilgjkdiopnaa
