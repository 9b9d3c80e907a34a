/- The walk of least. -/
import Derived.Test.YtkcilgjkdiopnaaW3m
import Derived.Test.YtkcilgjkdiopnaaW3i
namespace Go.Proofs.Ytkcilgjkdiopnaa
open Go.RowKit
attribute [local go_sem] Oper.semAt_some

/-- the best choice so far in block B, whether there is one in block B + 1 -/
def BestAt (M B : Nat) (o : Option Ch) (W : World) : Prop :=
  W.heap[B + 1]? = some (.cells #[.bool o.isSome] 4 (0, 0)) ∧ match o with
    | none => W.heap[B]? = some (.cells #[.int .u64 0, .slice none 0 0] 105 (0, 0))
    | some c => ∃ p cap, W.heap[B]? = some (.cells #[.int .u64 c.needles, .slice p c.records.length cap] 105 (0, 0)) ∧ MasksAt W p c.records ∧ ∀ a, p = some a → M ≤ a.block
theorem BestAt.fr {M B : Nat} {o : Option Ch} {w w' : World} {E : Nat → Prop} (h : BestAt M B o w) (hF : Fr E w w') (h0 : ¬E B) (h1 : ¬E (B + 1)) (hM : ∀ k, M ≤ k → ¬E k) : BestAt M B o w' := by
  obtain ⟨h2, h3⟩ := h
  refine ⟨(hF.block _ (Array.getElem?_eq_some_iff.1 h2).1 h1).trans h2, ?_⟩
  cases o with
  | none => exact (hF.block _ (Array.getElem?_eq_some_iff.1 h3).1 h0).trans h3
  | some c =>
    obtain ⟨p, cap, h4, h5, h6⟩ := h3
    exact ⟨p, cap, (hF.block _ (Array.getElem?_eq_some_iff.1 h4).1 h0).trans h4, h5.fr hF (fun a ha => hM _ (h6 a ha)), h6⟩

/-- a function value that says a number of a choice -/
def Says (g : Nat) (cap : Array Value) (w : World) (X : Wr) (f : Ch → Int) : Prop :=
  (∀ args w, (callFunc g args).run Try.prog w = .ok (.enter g args) w) ∧ ∀ w' v c, Ext w w' → ChV w' v c → ChOK X c → Calls Try.prog g (#[v] ++ cap) w' (RetE (.int .i64 (f c)) w')

theorem leastL_ok {X : Wr} {f : Ch → Int} : ∀ (l : List Ch), (∀ c ∈ l, ChOK X c) → ∀ b, leastL f l = some b → ChOK X b := by
  have key : ∀ (l : List Ch) (o : Option Ch), (∀ c ∈ l, ChOK X c) → (∀ b, o = some b → ChOK X b) → ∀ b, l.foldl (leastS f) o = some b → ChOK X b := by
    intro l
    induction l with
    | nil => intro o _ ho b hb; exact ho b hb
    | cons c r ih =>
      intro o hl ho b hb
      refine ih _ (fun c hc => hl c (by simp [hc])) ?_ b hb
      intro b' hb'
      cases o with
      | none => cases hb'; exact hl _ (by simp)
      | some y =>
        simp only [leastS] at hb'
        split at hb'
        · cases hb'; exact hl _ (by simp)
        · cases hb'; exact ho _ rfl
  exact fun l hl => key l none hl (fun b hb => by cases hb)

theorem heap4_3 (w : World) (o u t s : Obj) : ((((w.alloc o).alloc u).alloc t).alloc s).heap[w.heap.size + 3]? = some s := by
  have := heap_new (((w.alloc o).alloc u).alloc t) s
  simpa only [size_alloc] using this

set_option maxRecDepth 20000 in
set_option maxHeartbeats 6400000 in
theorem least03 (X : Wr) (hX : ValidW X) (p q : Option Addr) (c d long : Nat) (hl : (long : Int) ≤ X.weeks) (g : Nat) (cap : Array Value) (f : Ch → Int) (w : World) (hR : RecsAt w q X.recs) (hG : IntsAt w p X.rough) (hf : Says g cap w X f) :
    Calls Try.prog 70 #[.agg #[.int .i64 X.weeks, .int .i64 X.price, .int .i64 X.age, .int .i64 X.step, .slice p X.rough.length c, .slice q X.recs.length d], .int .i64 long, .func (.func g) #[] cap] w (ChPost (leastL f (choicesW X long)) w) := by
  obtain ⟨hcall, hf⟩ := hf
  have HFF := Lib.hid hf
  have HX := Lib.hid hX
  have HRA := Lib.hid hR
  have HGA := Lib.hid hG
  have hl6 : long ≤ 6 := by have := hX.weeks; omega
  clear hf hX hR hG
  refine calls_of_marks Try.func70 rfl ?_
  simp only [Try.ntmps70, List.size_toArray, List.length_cons, List.length_nil, Nat.reduceAdd, Nat.reduceSub, Array.replicate_succ, Array.replicate_zero, List.push_toArray, List.append_toArray, List.nil_append, List.cons_append]
  go_upto_region 1 with (fail)
  obtain ⟨W, hW⟩ : ∃ W, W = (((w.alloc (bxO X p c q d)).alloc (.cells #[.func (.func g) #[] cap] 122)).alloc (.cells #[.int .u64 0, .slice none 0 0] 105)).alloc (.cells #[.bool false] 4) := ⟨_, rfl⟩
  have g0 : W.heap[w.heap.size]? = some (bxO X p c q d) := by rw [hW]; exact heap_old _ (heap3_0 _ _ _ _)
  have g1 : W.heap[w.heap.size + 1]? = some (.cells #[.func (.func g) #[] cap] 122) := by rw [hW]; exact heap_old _ (heap3_1 _ _ _ _)
  have g2 : W.heap[w.heap.size + 2]? = some (.cells #[.int .u64 0, .slice none 0 0] 105 (0, 0)) := by rw [hW]; exact heap_old _ (heap3_2 _ _ _ _)
  have g3 : W.heap[w.heap.size + 3]? = some (.cells #[.bool false] 4 (0, 0)) := by rw [hW]; exact heap4_3 _ _ _ _ _
  have hE : Ext w W := by rw [hW]; exact Ext.alloc (Ext.alloc (Ext.alloc (Ext.alloc (Ext.refl w) _) _) _) _
  have hsW : W.heap.size = w.heap.size + 4 := by rw [hW]; simp only [size_alloc]
  unfold bxO at hW g0
  rw [← hW]
  have b0 : W.cell? ⟨w.heap.size, 0, none⟩ = some (.int .i64 X.weeks) := (cell_of_heap g0 0).trans rfl
  have b1 : W.cell? ⟨w.heap.size, 1, none⟩ = some (.int .i64 X.price) := (cell_of_heap g0 1).trans rfl
  have b2 : W.cell? ⟨w.heap.size, 2, none⟩ = some (.int .i64 X.age) := (cell_of_heap g0 2).trans rfl
  have b3 : W.cell? ⟨w.heap.size, 3, none⟩ = some (.int .i64 X.step) := (cell_of_heap g0 3).trans rfl
  have b4 : W.cell? ⟨w.heap.size, 4, none⟩ = some (.slice p X.rough.length c) := (cell_of_heap g0 4).trans rfl
  have b5 : W.cell? ⟨w.heap.size, 5, none⟩ = some (.slice q X.recs.length d) := (cell_of_heap g0 5).trans rfl
  have HCI := Lib.hid (choices03 X p q c d long W)
  have hwW : w.heap.size + 3 < W.heap.size := by omega
  have HG1 := Lib.hid g1
  have HG2 := Lib.hid g2
  have HG3 := Lib.hid g3
  have HE := Lib.hid hE
  clear hW g0 g1 g2 g3 hE hsW
  go_wp2_with (go_at_call 64; refine HCI.out.mono ?_; rintro e W6 ⟨rfl, i0, i1, hE6⟩)
  obtain ⟨B, hB⟩ : ∃ B, B = w.heap.size + 2 := ⟨_, rfl⟩
  have hz6 : W.heap.size + 2 ≤ W6.heap.size := by have := (Array.getElem?_eq_some_iff.1 i1).1; omega
  have hbest6 : BestAt (W6.heap.size + 2) B none W6 := by
    rw [hB]
    exact ⟨(Below.block hE6 _ (by omega)).trans HG3.out, (Below.block hE6 _ (by omega)).trans HG2.out⟩
  have hfn6 : W6.heap[w.heap.size + 1]? = some (.cells #[.func (.func g) #[] cap] 122) := (Below.block hE6 _ (by omega)).trans HG1.out
  have hEw6 := HE.out.trans hE6
  have HIT : Hid (CiAt X p q c d W.heap.size long w W6) := Lib.hid ⟨i0, i1, hEw6⟩
  have HE6 := Lib.hid hEw6
  have HI6 : Hid (Ext w W6 ∧ W6.heap[w.heap.size + 1]? = some (.cells #[.func (.func g) #[] cap] 122) ∧ BestAt (W6.heap.size + 2) B (leastL f []) W6 ∧ ∀ c ∈ ([] : List Ch), ChOK X c) := Lib.hid ⟨hEw6, hfn6, hbest6, fun c hc => absurd hc (by simp)⟩
  have hww : w.heap.size ≤ W6.heap.size := hEw6.size
  have hBw : w.heap.size + 1 < B := by omega
  have hB3 : B + 1 < W.heap.size := by omega
  rw [show w.heap.size + 1 + 1 = B from hB.symm]
  clear i0 i1 hE6 HCI b0 b1 b2 b3 b4 b5 hbest6 hfn6 hEw6 HG1 HG2 HG3 HE hB
  refine (wpIn_wide (n := 0)).1 ?_
  refine range_lawV (fst := #[]) (gf := 93) (cap := #[.pointer (some ⟨W.heap.size + 1, 0, none⟩), .pointer (some ⟨W.heap.size, 0, none⟩)]) rfl Try.call93
    (ChOK X) (choicesW X long) (fun k => k = B ∨ k = B + 1) (fun _ => False) ?hE (fun _ h => h.elim) (fun pre x v W => ChK (W6.heap.size + 2) W v x ∧ pre.length < 64) (fun _ => True)
    (fun pre W => Ext w W ∧ W.heap[w.heap.size + 1]? = some (.cells #[.func (.func g) #[] cap] 122) ∧ BestAt (W6.heap.size + 2) B (leastL f pre) W ∧ ∀ c ∈ pre, ChOK X c) (fun _ _ _ => False)
    ?hI (fun _ _ _ _ h _ _ => h) (fun _ _ h _ => h) HI6.out ?hiter ?hround ?hdone (fun _ _ _ _ h _ => h.elim)
  case hE => constructor <;> omega
  case hI =>
    rintro pre A C ⟨h1, h2, h3, h4⟩ hF hz
    exact ⟨Fr.ext h1 hF (fun i hi => by rcases hi with h | h | h; exact h.elim; omega; omega), (hF.block _ (by omega) (fun h => by rcases h with h | h | h; exact h; omega; omega)).trans h2,
      h3.fr hF (fun h => by rcases h with h | h | h; exact h; omega; omega) (fun h => by rcases h with h | h | h; exact h; omega; omega) (fun k hk h => by rcases h with h | h | h; exact h; omega; omega), h4⟩
  case hiter =>
    intro lp J Jx hJ hJx hno hY A hA hz hj
    refine callsIn_wide.2 ?_
    exact itch03 X HX.out p q c d W.heap.size long hl W6 (fun k => k = B ∨ k = B + 1) lp w HIT.out HRA.out HGA.out (fun k h => ⟨by omega, by omega, by omega⟩) J Jx hJ hJx hY A hA hz hj
  case hround =>
    rintro lp pre x v A hok hlp ⟨hA, hfn, hbest, hpre⟩ ⟨⟨mp, mc, rfl, hma, hmb, -⟩, -⟩ hz
    obtain ⟨H, hH⟩ : ∃ H, H = A.heap.size := ⟨_, rfl⟩
    have hn := heap_new A (.cells #[.int .u64 x.needles, .slice mp x.records.length mc] 105)
    gi_wp2
    refine ⟨Ext.alloc (Ext.refl A) _, fun W2 hW2 => ?_⟩
    have hF2 : Fr (fun k => k = lp) A W2 := ((Fr.refl (fun k => k = lp) A).alloc _).trans (hW2.fr rfl)
    have hH2 : W2.heap[H]? = some (.cells #[.int .u64 x.needles, .slice mp x.records.length mc] 105) := by rw [hH]; exact (hW2.block _ (by omega)).trans hn
    have hbest2 := hbest.fr hF2 (by omega) (by omega) (fun k hk => by omega)
    have hma2 := hma.fr hF2 (fun a ha => by have := hmb a ha; omega)
    have hfn2 := (hF2.block _ (by omega) (by omega)).trans hfn
    have hE2 : Ext w W2 := Fr.ext hA hF2 (fun i hi => by omega)
    have hsn := leastL_snoc f pre x
    have hprx : ∀ c ∈ pre ++ [x], ChOK X c := fun c hc => by
      rcases List.mem_append.1 hc with h | h
      · exact hpre c h
      · rw [List.mem_singleton.1 h]; exact hok
    have hbok := leastL_ok (f := f) pre hpre
    rw [← hH]
    have HB2 := Lib.hid hbest2
    have HF2 := Lib.hid hfn2
    have HE2 := Lib.hid hE2
    have HSN := Lib.hid hsn
    have HPX := Lib.hid hprx
    have HMA := Lib.hid hma2
    have HMB := Lib.hid hmb
    have HFX := Lib.hid (fun y : ExtW W2 => ExtW.call (HFF.out y.w (.agg #[.int .u64 x.needles, .slice mp x.records.length mc]) x (hE2.trans y.h) ⟨_, _, rfl, hma2.ext y.h⟩ hok))
    have u0 := ExtW.cell (v := .int .u64 x.needles) (cell_of_heap hH2 0)
    have u1 := ExtW.cell (v := .slice mp x.records.length mc) (cell_of_heap hH2 1)
    have ff := ExtW.cell (v := .func (.func g) #[] cap) (cell_of_heap hfn2 0)
    have hHl := (Array.getElem?_eq_some_iff.1 hH2).1
    have hHB : B + 1 < H := by omega
    clear hF2 hH2 hma2 hfn2 hE2 hsn hprx hn hH hfn hbest hpre hma hmb hW2 hA hbest2
    cases hlo : leastL f pre with
    | none =>
      rw [hlo] at HB2 HSN
      have t0 := ExtW.cell (v := .bool false) (cell_of_heap HB2.out.1 0)
      clear hbok hlo
      gi_wp2
      refine wpIn_region_round (w0 := W2) (x := ⟨W2, Ext.refl _⟩) (by kernel_rfl) (by kernel_rfl) (by kernel_rfl) ?_
      repeat (go_big_quiet_step (fail))
      refine wpQuiet_nil ?_
      rintro _ ⟨y1, rfl⟩
      have hB3 : BestAt (W6.heap.size + 2) B none y1.w := HB2.out.fr (y1.h.fr (fun _ => False)) (fun h => h) (fun h => h) (fun _ _ h => h)
      have s0 : y1.w.cell? ⟨B, 0, none⟩ = some (.int .u64 0) := (cell_of_heap hB3.2 0).trans rfl
      have s1 : y1.w.cell? ⟨B, 1, none⟩ = some (.slice none 0 0) := (cell_of_heap hB3.2 1).trans rfl
      have s2 : y1.w.cell? ⟨B + 1, 0, none⟩ = some (.bool false) := (cell_of_heap hB3.1 0).trans rfl
      have f0 := cell_frozen hB3.2 0
      have f1 := cell_frozen hB3.2 1
      have f2 := cell_frozen hB3.1 0
      have HB3 := Lib.hid hB3
      clear hB3 t0
      gi_wp2
      refine and_dep ((((y1.h.fr _).set (.inl rfl)).set (.inl rfl)).set (.inr rfl)) (fun hx => ⟨Fr.ext HE2.out hx (fun i hi => by omega), (hx.block _ (Array.getElem?_eq_some_iff.1 HF2.out).1 (by omega)).trans HF2.out, ?_, HPX.out⟩)
      rw [HSN.out]
      refine ⟨?_, mp, mc, heap_set_ne (by omega) (heap_set2 HB3.out.2), HMA.out.fr hx (fun a ha => by have := HMB.out a ha; omega), HMB.out⟩
      exact heap_set (heap_set_ne (by omega) (heap_set_ne (by omega) HB3.out.1)) rfl
    | some bc =>
      rw [hlo] at HB2 HSN
      have t0 := ExtW.cell (v := .bool true) (cell_of_heap HB2.out.1 0)
      have hbcok := hbok bc hlo
      clear hbok hlo
      obtain ⟨hb1, bp, bcap, hb2, hbm, hbb⟩ := HB2.out
      have w0 := ExtW.cell (v := .int .u64 bc.needles) (cell_of_heap hb2 0)
      have w1 := ExtW.cell (v := .slice bp bc.records.length bcap) (cell_of_heap hb2 1)
      have HFB := Lib.hid (fun y : ExtW W2 => ExtW.call (HFF.out y.w (.agg #[.int .u64 bc.needles, .slice bp bc.records.length bcap]) bc (HE2.out.trans y.h) ⟨_, _, rfl, hbm.ext y.h⟩ hbcok))
      have HBM := Lib.hid hbm
      have HBB := Lib.hid hbb
      have HB1 := Lib.hid hb1
      have HB2' := Lib.hid hb2
      clear hb1 hb2 hbm hbb HB2
      by_cases hlt : f x < f bc
      · have hlt' : decide (f x < f bc) = true := by simpa using hlt
        have HLT := Lib.hid hlt
        clear hlt
        gi_wp2
        refine wpIn_region_round (w0 := W2) (x := ⟨W2, Ext.refl _⟩) (by kernel_rfl) (by kernel_rfl) (by kernel_rfl) ?_
        repeat (go_big_quiet_step (with_reducible first | exact HFX.out _ | exact HFB.out _))
        refine wpQuiet_nil ?_
        rintro _ ⟨y1, rfl⟩
        have h1 := (Below.block y1.h _ (Array.getElem?_eq_some_iff.1 HB1.out).1).trans HB1.out
        have h2 := (Below.block y1.h _ (Array.getElem?_eq_some_iff.1 HB2'.out).1).trans HB2'.out
        have f0 := cell_frozen h2 0
        have f1 := cell_frozen h2 1
        have f2 := cell_frozen h1 0
        have s0 : y1.w.cell? ⟨B, 0, none⟩ = some (.int .u64 bc.needles) := (cell_of_heap h2 0).trans rfl
        have s1 : y1.w.cell? ⟨B, 1, none⟩ = some (.slice bp bc.records.length bcap) := (cell_of_heap h2 1).trans rfl
        have s2 : y1.w.cell? ⟨B + 1, 0, none⟩ = some (.bool true) := (cell_of_heap h1 0).trans rfl
        have H1 := Lib.hid h1
        have H2 := Lib.hid h2
        clear h1 h2 t0 w0 w1
        gi_wp2
        refine and_dep ((((y1.h.fr _).set (.inl rfl)).set (.inl rfl)).set (.inr rfl)) (fun hx => ⟨Fr.ext HE2.out hx (fun i hi => by omega), (hx.block _ (Array.getElem?_eq_some_iff.1 HF2.out).1 (by omega)).trans HF2.out, ?_, HPX.out⟩)
        rw [HSN.out]
        simp only [leastS, if_pos HLT.out]
        refine ⟨?_, mp, mc, heap_set_ne (by omega) (heap_set2 H2.out), HMA.out.fr hx (fun a ha => by have := HMB.out a ha; omega), HMB.out⟩
        exact heap_set (heap_set_ne (by omega) (heap_set_ne (by omega) H1.out)) rfl
      · have hlt' : decide (f x < f bc) = false := by simpa using hlt
        have HLT := Lib.hid hlt
        clear hlt
        gi_wp2
        refine wpIn_region_round (w0 := W2) (x := ⟨W2, Ext.refl _⟩) (by kernel_rfl) (by kernel_rfl) (by kernel_rfl) ?_
        repeat (go_big_quiet_step (with_reducible first | exact HFX.out _ | exact HFB.out _))
        refine wpQuiet_nil ?_
        rintro _ ⟨y1, rfl⟩
        gi_wp2
        refine ⟨y1.h.fr _, HE2.out.trans y1.h, (Below.block y1.h _ (Array.getElem?_eq_some_iff.1 HF2.out).1).trans HF2.out, ?_, HPX.out⟩
        rw [HSN.out]
        simp only [leastS, if_neg (show ¬f x < f bc by have := HLT.out; omega)]
        exact ⟨(Below.block y1.h _ (Array.getElem?_eq_some_iff.1 HB1.out).1).trans HB1.out, bp, bcap, (Below.block y1.h _ (Array.getElem?_eq_some_iff.1 HB2'.out).1).trans HB2'.out, HBM.out.ext y1.h, HBB.out⟩
  case hdone =>
    rintro A ⟨hA, hfn, hbest, hpre⟩ - hd
    have HA := Lib.hid hA
    have HD := Lib.hid hd
    have hsz := HE6.out.size
    clear hA hd hfn hpre
    cases hlo : leastL f (choicesW X long) with
    | none =>
      rw [hlo] at hbest
      have hb2 : A.heap[B]? = some (.cells #[.int .u64 0, .slice none 0 0] 105 (0, 0)) := hbest.2
      have hb1 : A.heap[B + 1]? = some (.cells #[.bool false] 4 (0, 0)) := hbest.1
      have HB2 := Lib.hid hb2
      have HB1 := Lib.hid hb1
      clear hb1 hb2
      have s0 : A.cell? ⟨B, 0, none⟩ = some (.int .u64 0) := (cell_of_heap hbest.2 0).trans rfl
      have s1 : A.cell? ⟨B, 1, none⟩ = some (.slice none 0 0) := (cell_of_heap hbest.2 1).trans rfl
      have s2 : A.cell? ⟨B + 1, 0, none⟩ = some (.bool false) := (cell_of_heap hbest.1 0).trans rfl
      have f0 := cell_frozen hbest.2 0
      have f1 := cell_frozen hbest.2 1
      have f2 := cell_frozen hbest.1 0
      have HLO := Lib.hid hlo
      clear hbest hlo
      go_wp2
      go_region
      all_goals go_wp2
      all_goals
        refine marks_ret (v := .tuple #[zeroCh, .bool false]) ?_ ?_ ?_
        · repeat (with_reducible (first | refine heap_drew ?_ | refine heap_set_ne (by omega) ?_ | exact HD.out))
        · intro W' hW'
          have k1 : W'.heap[B]? = some (.cells #[.int .u64 0, .slice none 0 0] 105) := by
            rw [hW'.block _ (by omega)]
            repeat (with_reducible (first | refine heap_drew ?_ | refine heap_set_ne (by omega) ?_ | apply heap_set | exact HB2.out))
            all_goals rfl
          have k2 : W'.heap[B + 1]? = some (.cells #[.bool false] 4) := by
            rw [hW'.block _ (by omega)]
            repeat (with_reducible (first | refine heap_drew ?_ | refine heap_set_ne (by omega) ?_ | apply heap_set | exact HB1.out))
            all_goals rfl
          have a0 := cell_of_heap k1 0
          have a1 := cell_of_heap k1 1
          have a2 := cell_of_heap k2 0
          simp at a0 a1 a2
          simp [results, Try.results70, go_sem, a0, a1, a2, zeroCh]
        · intro W' hW'
          refine ⟨?_, by rw [HLO.out]⟩
          refine Ext.trans' ?_ (hW'.below (by omega))
          repeat (with_reducible (first | refine Ext.drew ?_ | refine Ext.set ?_ (by omega) | exact HA.out))
    | some bc =>
      rw [hlo] at hbest
      obtain ⟨hb1, bp, bcap, hb2, hbm, hbb⟩ := hbest
      have HB1 := Lib.hid hb1
      have HB2 := Lib.hid hb2
      have HBM := Lib.hid hbm
      have HBB := Lib.hid hbb
      have s0 : A.cell? ⟨B, 0, none⟩ = some (.int .u64 bc.needles) := (cell_of_heap hb2 0).trans rfl
      have s1 : A.cell? ⟨B, 1, none⟩ = some (.slice bp bc.records.length bcap) := (cell_of_heap hb2 1).trans rfl
      have s2 : A.cell? ⟨B + 1, 0, none⟩ = some (.bool true) := (cell_of_heap hb1 0).trans rfl
      have f0 := cell_frozen hb2 0
      have f1 := cell_frozen hb2 1
      have f2 := cell_frozen hb1 0
      have HLO := Lib.hid hlo
      clear hb1 hb2 hbm hbb hlo
      go_wp2
      go_region
      all_goals go_wp2
      all_goals
        refine marks_ret (v := .tuple #[.agg #[.int .u64 bc.needles, .slice bp bc.records.length bcap], .bool true]) ?_ ?_ ?_
        · repeat (with_reducible (first | refine heap_drew ?_ | refine heap_set_ne (by omega) ?_ | exact HD.out))
        · intro W' hW'
          have k1 : W'.heap[B]? = some (.cells #[.int .u64 bc.needles, .slice bp bc.records.length bcap] 105) := by
            rw [hW'.block _ (by omega)]
            repeat (with_reducible (first | refine heap_drew ?_ | refine heap_set_ne (by omega) ?_ | apply heap_set | exact HB2.out))
            all_goals rfl
          have k2 : W'.heap[B + 1]? = some (.cells #[.bool true] 4) := by
            rw [hW'.block _ (by omega)]
            repeat (with_reducible (first | refine heap_drew ?_ | refine heap_set_ne (by omega) ?_ | apply heap_set | exact HB1.out))
            all_goals rfl
          have a0 := cell_of_heap k1 0
          have a1 := cell_of_heap k1 1
          have a2 := cell_of_heap k2 0
          simp at a0 a1 a2
          simp [results, Try.results70, go_sem, a0, a1, a2]
        · intro W' hW'
          have hFr : Fr (fun k => k = B ∨ k = B + 1 ∨ k = W6.heap.size) A W' := by
            refine Fr.trans ?_ (hW'.fr (.inr (.inr rfl)))
            repeat (with_reducible (first | exact Fr.refl _ _ | refine Fr.drew ?_ | refine Fr.set ?_ (.inl rfl) | refine Fr.set ?_ (.inr (.inl rfl))))
          refine ⟨?_, by rw [HLO.out]; exact ⟨_, rfl, bp, bcap, rfl, HBM.out.fr hFr (fun a ha => by have := HBB.out a ha; omega), fun a ha => by have := HBB.out a ha; omega⟩⟩
          exact Fr.ext HA.out hFr (fun i hi => by omega)
end Go.Proofs.Ytkcilgjkdiopnaa
