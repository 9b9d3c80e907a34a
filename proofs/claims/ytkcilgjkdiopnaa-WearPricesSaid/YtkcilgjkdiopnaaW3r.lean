/- The walks of slices.AppendSeq and slices.Collect, over the choices. -/
import Derived.Test.YtkcilgjkdiopnaaW3n
namespace Go.Proofs.Ytkcilgjkdiopnaa
open Go.RowKit
attribute [local go_sem] Oper.semAt_some

theorem wpListIn_append_lies {F : Fence} {n0 : Nat} {P : Program} (w : World) {ops : Array Oper} {rest : List Oper} {o : Oper} {a : Act} {Q : Exit → Act → World → Prop}
    (hgd : o.guard = none) (s x : Operand) (t : TypeId) (hop : o.op = Op.call { callee := Callee.builtin Builtin.append, args := #[s, x], argTypes := #[t, t] })
    (base : Nat) (e : TypeId) (i : TypeInfo) (z : Value) (size bytes : Nat) (h1 : P.underlying t = some (.slice e)) (h2 : P.info? e = some i) (h3 : i.zero = some z) (h4 : i.size = size) (h5 : i.bytes = bytes) (h6 : z.cells.size = size) (h7 : 0 < size)
    (v : Value) (k : Nat) (xs : List Value) (hs : a.eval s = v) (hown : w.ownsRow base e size v k xs) (ad : Addr) (m c : Nat) (news : List Value) (hx : a.eval x = .slice (some ad) m c) (hn : news.length = m * size)
    (hc : ∀ j u, news[j]? = some u → w.cell? (ad.add j) = some u) (h1c : ∀ u ∈ news, u.oneCell' = true) (hm : 0 < m) (b1 : k + m ≤ maxLen) (b2 : (k + m) * bytes ≤ 140737488355328) (b3 : base ≤ w.heap.size)
    (hK : ∀ g cap w', w'.ownsRow base e size (.slice (some ⟨g, 0, none⟩) (k + m) cap) (k + m) (xs ++ news) → w.grownBy w' v.ownBlock → (v.ownBlock = some g ∨ g = w.heap.size) → wpListIn F n0 P ops Q rest (a.put o.dst (.slice (some ⟨g, 0, none⟩) (k + m) cap)) w') :
    wpListIn F n0 P ops Q (o :: rest) a w := by
  refine wpListIn_plain hgd fun K hK' => ?_
  obtain ⟨g, cap, w', hrun, r1, r2, r3, -⟩ := run_append_lies (P := P) w t o.type base e i z size bytes h1 h2 h3 h4 h5 h6 h7 v k xs hown ad m c news hn hc h1c hm b1 b2 b3 w.heap.size rfl
  unfold Oper.wpIn
  refine ⟨?_, ?_⟩
  · simp [Oper.about, hop, resolve, Target.leads, Sem.run_pure]
  · rw [Oper.semAt_plain F _ _ (by rw [hop]; intro c hc'; cases hc')]
    simp [execOp, hop, resolve, invoke, builtin, hs, hx, hrun, Result.andThen]
    exact hK' _ _ (hK g cap w' r1 r2 r3)

/-- the cells of choices, whose records lie apart from block r -/
def ChsR (M : Nat) (W : World) (r : Option Nat) (xs : List Value) (l : List Ch) : Prop :=
  ∀ i (h : i < l.length), ∃ q c, xs[i * 2]? = some (.int .u64 l[i].needles) ∧ xs[i * 2 + 1]? = some (.slice q l[i].records.length c) ∧ MasksAt W q l[i].records ∧ (∀ a, q = some a → M ≤ a.block) ∧ ∀ a, q = some a → l[i].records ≠ [] → r ≠ some a.block
theorem masks_lt {W : World} {q : Option Addr} {l : List Nat} (h : MasksAt W q l) (a : Addr) (ha : q = some a) (hl : l ≠ []) : a.block < W.heap.size := by
  obtain ⟨b, o, he, hc⟩ := h.at 0 (List.length_pos_iff.2 hl)
  rw [ha] at he
  cases he
  exact lt_of_cell hc
theorem ChsR.fr {M : Nat} {W W' : World} {r : Option Nat} {xs : List Value} {l : List Ch} {E : Nat → Prop} (h : ChsR M W r xs l) (hF : Fr E W W') (hE : ∀ k, M ≤ k → ¬E k) : ChsR M W' r xs l := by
  intro i hi
  obtain ⟨q, c, h1, h2, h3, h4, h5⟩ := h i hi
  exact ⟨q, c, h1, h2, h3.fr hF (fun a ha => hE _ (h4 a ha)), h4, h5⟩
theorem ChsR.step {M : Nat} {W W' : World} {r : Option Nat} {xs : List Value} {l : List Ch} {g : Nat} {x : Ch} {mp : Option Addr} {mc : Nat} (h : ChsR M W r xs l) (hxs : xs.length = l.length * 2) (hg : W.grownBy W' r) (hat : r = some g ∨ g = W.heap.size)
    (hma : MasksAt W mp x.records) (hmb : ∀ a, mp = some a → M ≤ a.block) (hmr : ∀ a, mp = some a → x.records ≠ [] → r ≠ some a.block) : ChsR M W' (some g) (xs ++ [.int .u64 x.needles, .slice mp x.records.length mc]) (l ++ [x]) := by
  have keep : ∀ (q : Option Addr) (rs : List Nat), MasksAt W q rs → (∀ a, q = some a → rs ≠ [] → r ≠ some a.block) → MasksAt W' q rs ∧ ∀ a, q = some a → rs ≠ [] → some g ≠ some a.block := by
    intro q rs hq hr
    refine ⟨fun i hi => ?_, fun a ha hne e => ?_⟩
    · obtain ⟨b, o, v, hp, hc, hv⟩ := hq i hi
      exact ⟨b, o, v, hp, hg.cell hc (fun e => hr _ hp (by intro h0; rw [h0] at hi; simp at hi) e.symm), hv⟩
    · rcases hat with h1 | h1
      · exact hr a ha hne (h1.trans e)
      · have := masks_lt hq a ha hne
        have e2 : g = a.block := Option.some.inj e
        omega
  intro i hi
  rw [List.length_append, List.length_singleton] at hi
  by_cases e : i < l.length
  · obtain ⟨q, c, h1, h2, h3, h4, h5⟩ := h i e
    obtain ⟨k1, k2⟩ := keep q _ h3 h5
    rw [List.getElem_append_left e]
    exact ⟨q, c, by rw [List.getElem?_append_left (by omega)]; exact h1, by rw [List.getElem?_append_left (by omega)]; exact h2, k1, h4, k2⟩
  · obtain rfl : i = l.length := by omega
    obtain ⟨k1, k2⟩ := keep mp _ hma hmr
    have hx : (l ++ [x])[l.length]'(by simp) = x := by simp
    rw [hx]
    refine ⟨mp, mc, ?_, ?_, k1, hmb, k2⟩
    · rw [List.getElem?_append_right (by omega), hxs]; simp
    · rw [List.getElem?_append_right (by omega), hxs]; simp

theorem info_ch : (Try.prog.info? 105).map (fun i => (i.zero, i.size, i.bytes)) = some (some (.agg #[.int .u64 0, .slice none 0 0]), 2, 32) := by kernel_rfl
theorem hnews2 {w w' : World} {v u : Value} {t : TypeId} {g : Nat} (hE : Ext (w.alloc (.cells #[v, u] t)) w') (hg : g = w.heap.size) : ∀ j y, [v, u][j]? = some y → w'.cell? ((⟨g, 0, none⟩ : Addr).add j) = some y := by
  intro j y hj
  subst hg
  match j, hj with
  | 0, hj =>
    simp at hj
    subst hj
    have := hE.cell ((cell_of_heap (heap_new w (.cells #[v, u] t)) 0).trans rfl)
    simpa [Addr.add] using this
  | 1, hj =>
    simp at hj
    subst hj
    have := hE.cell ((cell_of_heap (heap_new w (.cells #[v, u] t)) 1).trans rfl)
    simpa [Addr.add] using this
theorem one_ch (n : Int) (q : Option Addr) (a b : Nat) : ∀ u ∈ [Value.int .u64 n, Value.slice q a b], u.oneCell' = true := by
  intro u hu
  simp at hu
  rcases hu with rfl | rfl <;> rfl

/-- choices in a slice -/
def ChsV (w : World) (v : Value) (l : List Ch) : Prop := ∃ p c, v = .slice p l.length c ∧ ChsAt w p l
theorem ChsR.out {M B : Nat} {W : World} {u : Value} {xs : List Value} {l : List Ch} (h : ChsR M W u.ownBlock xs l) (ho : W.ownsRow B 105 2 u l.length xs) : ChsV W u l := by
  rcases ho.2 with ⟨rfl, h0⟩ | ⟨g, cap, cur, rfl, -, hg, hc, -, hs, hx⟩
  · have : l = [] := List.length_eq_zero_iff.1 h0
    subst this
    exact ⟨none, 0, rfl, fun i hi => absurd hi (by simp)⟩
  · refine ⟨_, _, rfl, fun i hi => ?_⟩
    obtain ⟨q, c, h1, h2, h3, -, -⟩ := h i hi
    refine ⟨g, 0, q, c, rfl, ?_, ?_, h3⟩
    · rw [cell_of_heap hg, ← h1, ← hx, List.getElem?_take, if_pos (by omega), Nat.zero_add]; simp
    · rw [cell_of_heap hg, ← h2, ← hx, List.getElem?_take, if_pos (by omega), Nat.zero_add]; simp

set_option maxRecDepth 20000 in
set_option maxHeartbeats 6400000 in
theorem AppendSeq03 (X : Wr) (hX : ValidW X) (p q : Option Addr) (c d long b : Nat) (hl : (long : Int) ≤ X.weeks) (w wa : World) (hIt : CiAt X p q c d b long wa w) (hR : RecsAt wa q X.recs) (hG : IntsAt wa p X.rough) :
    Calls Try.prog 92 #[.slice none 0 0, .func (.func 93) #[] #[.pointer (some ⟨b + 1, 0, none⟩), .pointer (some ⟨b, 0, none⟩)]] w fun e w' => ∃ u, e = .returned u ∧ ChsV w' u (choicesW X long) ∧ Ext w w' := by
  have HX := Lib.hid hX
  have HRA := Lib.hid hR
  have HGA := Lib.hid hG
  have hbw : b + 1 < w.heap.size := (Array.getElem?_eq_some_iff.1 hIt.long).1
  have hwaw := hIt.ext.size
  have HIT0 := Lib.hid hIt
  obtain ⟨i1, hi1, hy0, hy1, hy2⟩ := info_parts info_ch
  have hl6 : long ≤ 6 := by have := hX.weeks; omega
  have hlen : (choicesW X long).length ≤ 64 := by
    have h1 := List.length_filterMap_le (fun N => chooseW X N long) (List.range (2 ^ long))
    have h2 : 2 ^ long ≤ 64 := Nat.pow_le_pow_right (n := 2) (by decide) hl6
    unfold choicesW
    rw [List.length_range] at h1
    omega
  clear hX hR hG hIt
  refine calls_of_marks Try.func92 rfl ?_
  simp only [Try.ntmps92, List.size_toArray, List.length_cons, List.length_nil, Nat.reduceAdd, Nat.reduceSub, Array.replicate_succ, Array.replicate_zero, List.push_toArray, List.append_toArray, List.nil_append, List.cons_append]
  go_wp2
  obtain ⟨W6, hW6⟩ : ∃ W6, W6 = w.alloc (.cells #[.slice none 0 0] 109) := ⟨_, rfl⟩
  have hn6 := heap_new w (.cells #[.slice none 0 0] 109)
  have hE6 : Ext w W6 := by rw [hW6]; exact Ext.alloc (Ext.refl _) _
  have hs6 : W6.heap.size = w.heap.size + 1 := by rw [hW6]; simp only [size_alloc]
  rw [← hW6] at hn6 ⊢
  obtain ⟨B, hB⟩ : ∃ B, B = w.heap.size := ⟨_, rfl⟩
  rw [← hB] at hn6 ⊢
  have HIT : Hid (CiAt X p q c d b long wa W6) := Lib.hid (HIT0.out.fr (hE6.fr (fun _ => False)) (fun h => h) (fun h => h) (fun _ h => h.elim))
  have HI6 : Hid (Ext w W6 ∧ ∃ u xs, W6.heap[B]? = some (.cells #[u] 109 (0, 0)) ∧ W6.ownsRow (W6.heap.size + 2) 105 2 u ([] : List Ch).length xs ∧ ChsR (W6.heap.size + 2) W6 u.ownBlock xs []) :=
    Lib.hid ⟨hE6, _, [], hn6, World.ownsRow_nil _ _ _ _, fun i hi => absurd hi (by simp)⟩
  have HE6 := Lib.hid hE6
  have hBn : B < W6.heap.size := by omega
  have hwB : w.heap.size ≤ B := by omega
  have hbB : b + 1 < B := by omega
  clear hW6 hn6 hE6 hs6 hB HIT0
  refine (wpIn_wide (n := 0)).1 ?_
  refine range_lawV (fst := #[]) (gf := 93) (cap := #[.pointer (some ⟨b + 1, 0, none⟩), .pointer (some ⟨b, 0, none⟩)]) rfl Try.call93
    (ChOK X) (choicesW X long) (fun k => k = B ∨ W6.heap.size + 2 ≤ k) (fun _ => False) ?hE (fun _ h => h.elim) (fun pre x v W => ChK (W6.heap.size + 2) W v x ∧ pre.length < 64) (fun _ => True)
    (fun pre W => Ext w W ∧ ∃ u xs, W.heap[B]? = some (.cells #[u] 109 (0, 0)) ∧ W.ownsRow (W6.heap.size + 2) 105 2 u pre.length xs ∧ ChsR (W6.heap.size + 2) W u.ownBlock xs pre) (fun _ _ _ => False)
    ?hI (fun _ _ _ _ h _ _ => h) (fun _ _ h _ => h) HI6.out ?hiter ?hround ?hdone (fun _ _ _ _ h _ => h.elim)
  case hE => constructor <;> omega
  case hI =>
    rintro pre A C ⟨h1, u, xs, h2, h3, h4⟩ hF hz
    have hD : ∀ k, W6.heap.size + 2 ≤ k → ¬(False ∨ k = W6.heap.size ∨ k = W6.heap.size + 1) := fun k hk h => by rcases h with h | h | h; exact h; omega; omega
    exact ⟨Fr.ext h1 hF (fun i hi => by rcases hi with h | h | h; exact h.elim; omega; omega), u, xs, (hF.block _ (Array.getElem?_eq_some_iff.1 h2).1 (fun h => by rcases h with h | h | h; exact h; omega; omega)).trans h2,
      ownsRow_fr h3 hF (fun g hg => hD g (h3.lt g hg).1), h4.fr hF hD⟩
  case hiter =>
    intro lp J Jx hJ hJx hno hY A hA hz hj
    refine callsIn_wide.2 ?_
    exact itch03 X HX.out p q c d b long hl W6 (fun k => k = B ∨ W6.heap.size + 2 ≤ k) lp wa HIT.out HRA.out HGA.out (fun k h => ⟨by omega, by omega, by omega⟩) J Jx hJ hJx hY A hA hz hj
  case hround =>
    rintro lp pre x v A hok hlp ⟨hA, u, xs, h2, h3, h4⟩ ⟨⟨mp, mc, rfl, hma, hmb, hmt⟩, hpl⟩ hz
    obtain ⟨H, hH⟩ : ∃ H, H = A.heap.size := ⟨_, rfl⟩
    have hn := heap_new A (.cells #[.int .u64 x.needles, .slice mp x.records.length mc] 105)
    gi_wp2
    refine ⟨Ext.alloc (Ext.refl A) _, fun W2 hW2 => ?_⟩
    have hF2 : Fr (fun k => k = lp) A W2 := ((Fr.refl (fun k => k = lp) A).alloc _).trans (hW2.fr rfl)
    have hH2 : W2.heap[H]? = some (.cells #[.int .u64 x.needles, .slice mp x.records.length mc] 105) := by rw [hH]; exact (hW2.block _ (by omega)).trans hn
    have hne : ∀ k, W6.heap.size + 2 ≤ k → ¬(k = lp) := fun k hk h => by omega
    have h22 := (hF2.block B (Array.getElem?_eq_some_iff.1 h2).1 (by omega)).trans h2
    have h32 := ownsRow_fr h3 hF2 (fun g hg => hne g (h3.lt g hg).1)
    have h42 := h4.fr hF2 hne
    have hma2 := hma.fr hF2 (fun a ha => hne _ (hmb a ha))
    have hmr : ∀ a, mp = some a → x.records ≠ [] → u.ownBlock ≠ some a.block := fun a ha _ e => by
      obtain ⟨cs, hcs⟩ := hmt a ha
      rcases h3.2 with ⟨hv, -⟩ | ⟨g, cap, cur, hv, -, hg, -⟩
      · rw [hv] at e; cases e
      · rw [hv] at e
        have e2 : g = a.block := Option.some.inj e
        rw [e2, hcs] at hg
        cases hg
    have hE2 : Ext w W2 := Fr.ext hA hF2 (fun i hi => by omega)
    rw [← hH]
    have u0 : W2.cell? ⟨H, 0, none⟩ = some (.int .u64 x.needles) := (cell_of_heap hH2 0).trans rfl
    have u1 : W2.cell? ⟨H, 1, none⟩ = some (.slice mp x.records.length mc) := (cell_of_heap hH2 1).trans rfl
    have t0 : W2.cell? ⟨B, 0, none⟩ = some u := (cell_of_heap h22 0).trans rfl
    have hBl := (Array.getElem?_eq_some_iff.1 h22).1
    have H22 := Lib.hid h22
    have H32 := Lib.hid h32
    have H42 := Lib.hid h42
    have HMA := Lib.hid hma2
    have HMB := Lib.hid hmb
    have HMR := Lib.hid hmr
    have HE2 := Lib.hid hE2
    have hxs := h3.1
    have hzs := hF2.size
    clear hF2 hH2 h22 h32 h42 hma2 hmr hE2 hn hH h2 h3 h4 hma hmb hmt hW2 hA hne
    gi_wp2_with (first
      | (gi_at_builtin; refine wpListIn_append_lies _ rfl _ _ 109 rfl (W6.heap.size + 2) 105 i1 (.agg #[.int .u64 0, .slice none 0 0]) 2 32 Try.underlying109 hi1 hy0 hy1 hy2 rfl (by decide) u pre.length xs rfl (ownsRow_ext H32.out (by repeat (first | exact Ext.refl _ | refine Ext.alloc ?_ _ | refine Ext.drew ?_))) ⟨_, 0, none⟩ 1 1 [.int .u64 x.needles, .slice mp x.records.length mc] rfl rfl (hnews2 (by repeat (first | exact Ext.refl _ | refine Ext.drew ?_)) rfl) (one_ch _ _ _ _) (by decide) (by unfold maxLen; omega) (by omega) (by rw [size_alloc]; omega) ?_)
      | gi_in)
    intro g cap w8 hown hgrn hat
    have hub : ∀ i, u.ownBlock = some i → W6.heap.size + 2 ≤ i := fun i hi => (H32.out.lt i hi).1
    have hB8 : w8.heap[B]? = some (.cells #[u] 109 (0, 0)) := (((grown_fr hgrn).block B (by rw [size_alloc]; omega) (fun e => by have := hub B e; omega)).trans (heap_old _ H22.out))
    have hch := ChsR.step (x := x) (g := g) (mp := mp) (mc := mc) (H42.out.fr (E := fun _ => False) ((Fr.refl _ _).alloc (.cells #[.int .u64 x.needles, .slice mp x.records.length mc] 105)) (fun _ _ h => h)) hxs hgrn (by rw [size_alloc]; exact hat) (HMA.out.ext (Ext.alloc (Ext.refl _) _)) HMB.out HMR.out
    have hFr : Fr (fun k => k = B ∨ W6.heap.size + 2 ≤ k) W2 w8 := ((Fr.refl _ _).alloc _).trans ((grown_fr hgrn).mono fun k h => .inr (hub k h))
    have HB8 := Lib.hid hB8
    have HCH := Lib.hid hch
    have HFR := Lib.hid hFr
    have HOW := Lib.hid hown
    have s0 : w8.cell? ⟨B, 0, none⟩ = some u := (cell_of_heap hB8 0).trans rfl
    have s1 := cell_frozen hB8 0
    clear hown hgrn hat hub hB8 hch hFr t0 u0 u1
    gi_wp2
    refine and_dep (HFR.out.set (.inl rfl)) (fun hx => ⟨Fr.ext HE2.out hx (fun i hi => by omega), _, xs ++ [.int .u64 x.needles, .slice mp x.records.length mc], heap_set HB8.out rfl, ?_, ?_⟩)
    · rw [List.length_append, List.length_singleton]
      exact ownsRow_fr (E := fun k => k = B) HOW.out ((Fr.refl _ _).set rfl) (fun b hb e => by have h1 := (HOW.out.lt b hb).1; have e2 : b = B := e; omega)
    · exact HCH.out.fr (E := fun k => k = B) ((Fr.refl _ _).set rfl) (fun k hk e => by have e2 : k = B := e; omega)
  case hdone =>
    rintro A ⟨hA, u, xs, h2, h3, h4⟩ - hd
    have HA := Lib.hid hA
    have HD := Lib.hid hd
    have t0 : A.cell? ⟨B, 0, none⟩ = some u := (cell_of_heap h2 0).trans rfl
    have HV := Lib.hid (h4.out h3)
    have hsz := HE6.out.size
    have HF : Hid (∀ W', But W6.heap.size A W' → ChsV W' u (choicesW X long)) := Lib.hid fun W' hW' => by
      have hF : Fr (fun k => k = W6.heap.size) A W' := hW'.fr rfl
      exact (h4.fr hF (fun k hk e => by omega)).out (ownsRow_fr h3 hF (fun g hg e => by have := (h3.lt g hg).1; omega))
    clear hA hd h2 h3 h4
    go_wp2
    refine marks_ret (v := u) HD.out (fun _ _ => results_tmp (t := 4) rfl _ _ _) (fun W' hW' => ⟨u, rfl, HF.out W' hW', HA.out.trans' (hW'.below hsz)⟩)
end Go.Proofs.Ytkcilgjkdiopnaa
