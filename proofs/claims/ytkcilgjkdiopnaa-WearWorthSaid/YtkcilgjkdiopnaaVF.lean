/- The walks of slices.AppendSeq and slices.Collect, over the choices. The walks of slices.Collect, ContainsFunc over the choices, and Worth of a valid box. The walk of Worth, of a valid box. -/
import Derived.Test.YtkcilgjkdiopnaaVE
import Derived.Deep.RegionHeld3
namespace Go.Proofs.Ytkcilgjkdiopnaa
open Go.RowKit
attribute [local go_sem] Oper.semAt_some

theorem wpListIn_append_lies {F : Fence} {n0 : Nat} {P : Program} (w : World) {ops : Array Oper} {rest : List Oper} {o : Oper} {a : Act} {Q : Exit → Act → World → Prop}
    (hgd : o.guard = none) (s x : Operand) (t : TypeId) (hop : o.op = Op.call { callee := Callee.builtin Builtin.append, args := #[s, x], argTypes := #[t, t] })
    (base : Nat) (e : TypeId) (i : TypeInfo) (z : Value) (size bytes : Nat) (h1 : P.underlying t = some (.slice e)) (h2 : P.info? e = some i) (h3 : i.zero = some z) (h4 : i.size = size) (h5 : i.bytes = bytes) (h6 : z.cells.size = size) (h7 : 0 < size)
    (v : Value) (k : Nat) (xs : List Value) (hs : a.eval s = v) (hown : w.ownsRow base e size v k xs) (ad : Addr) (m c : Nat) (news : List Value) (hx : a.eval x = .slice (some ad) m c) (hn : news.length = m * size)
    (hc : ∀ j u, news[j]? = some u → w.cell? (ad.add j) = some u) (h1c : ∀ u ∈ news, u.oneCell' = true) (hm : 0 < m) (b1 : k + m ≤ maxLen) (b2 : (k + m) * bytes ≤ 140737488355328) (b3 : base ≤ w.heap.size)
    (hK : ∀ g cap w', w'.ownsRow base e size (.slice (some ⟨g, 0, none⟩) (k + m) cap) (k + m) (xs ++ news) → w.grownBy w' v.ownBlock → (v.ownBlock = some g ∨ g = w.heap.size) → wpListIn F n0 P ops Q rest (a.put o.dst (.slice (some ⟨g, 0, none⟩) (k + m) cap)) w') :
    wpListIn F n0 P ops Q (o :: rest) a w := by
  refine wpListIn_plain hgd fun K hK' => ?_
  obtain ⟨g, cap, w', hrun, r1, r2, r3, -⟩ := run_append_lies (P := P) w t o.type base e i z size bytes h1 h2 h3 h4 h5 h6 h7 v k xs hown ad m c news hn hc h1c hm b1 b2 b3 w.heap.size rfl
  unfold Oper.wpIn
  refine ⟨?_, ?_⟩
  · simp [Oper.about, hop, resolve, Target.leads, Sem.run_pure]
  · rw [Oper.semAt_plain F _ _ (by rw [hop]; intro c hc'; cases hc')]
    simp [execOp, hop, resolve, invoke, builtin, hs, hx, hrun, Result.andThen]
    exact hK' _ _ (hK g cap w' r1 r2 r3)

/-- the cells of choices, whose records lie apart from block r -/
def ChsR (M : Nat) (W : World) (r : Option Nat) (xs : List Value) (l : List Ch) : Prop :=
  ∀ i (h : i < l.length), ∃ q c, xs[i * 2]? = some (.int .u64 l[i].needles) ∧ xs[i * 2 + 1]? = some (.slice q l[i].records.length c) ∧ MasksAt W q l[i].records ∧ (∀ a, q = some a → M ≤ a.block) ∧ ∀ a, q = some a → l[i].records ≠ [] → r ≠ some a.block
theorem masks_lt {W : World} {q : Option Addr} {l : List Nat} (h : MasksAt W q l) (a : Addr) (ha : q = some a) (hl : l ≠ []) : a.block < W.heap.size := by
  obtain ⟨b, o, he, hc⟩ := h.at 0 (List.length_pos_iff.2 hl)
  rw [ha] at he
  cases he
  exact lt_of_cell hc
theorem ChsR.fr {M : Nat} {W W' : World} {r : Option Nat} {xs : List Value} {l : List Ch} {E : Nat → Prop} (h : ChsR M W r xs l) (hF : Fr E W W') (hE : ∀ k, M ≤ k → ¬E k) : ChsR M W' r xs l := by
  intro i hi
  obtain ⟨q, c, h1, h2, h3, h4, h5⟩ := h i hi
  exact ⟨q, c, h1, h2, h3.fr hF (fun a ha => hE _ (h4 a ha)), h4, h5⟩
theorem ChsR.step {M : Nat} {W W' : World} {r : Option Nat} {xs : List Value} {l : List Ch} {g : Nat} {x : Ch} {mp : Option Addr} {mc : Nat} (h : ChsR M W r xs l) (hxs : xs.length = l.length * 2) (hg : W.grownBy W' r) (hat : r = some g ∨ g = W.heap.size)
    (hma : MasksAt W mp x.records) (hmb : ∀ a, mp = some a → M ≤ a.block) (hmr : ∀ a, mp = some a → x.records ≠ [] → r ≠ some a.block) : ChsR M W' (some g) (xs ++ [.int .u64 x.needles, .slice mp x.records.length mc]) (l ++ [x]) := by
  have keep : ∀ (q : Option Addr) (rs : List Nat), MasksAt W q rs → (∀ a, q = some a → rs ≠ [] → r ≠ some a.block) → MasksAt W' q rs ∧ ∀ a, q = some a → rs ≠ [] → some g ≠ some a.block := by
    intro q rs hq hr
    refine ⟨fun i hi => ?_, fun a ha hne e => ?_⟩
    · obtain ⟨b, o, v, hp, hc, hv⟩ := hq i hi
      exact ⟨b, o, v, hp, hg.cell hc (fun e => hr _ hp (by intro h0; rw [h0] at hi; simp at hi) e.symm), hv⟩
    · rcases hat with h1 | h1
      · exact hr a ha hne (h1.trans e)
      · have := masks_lt hq a ha hne
        have e2 : g = a.block := Option.some.inj e
        omega
  intro i hi
  rw [List.length_append, List.length_singleton] at hi
  by_cases e : i < l.length
  · obtain ⟨q, c, h1, h2, h3, h4, h5⟩ := h i e
    obtain ⟨k1, k2⟩ := keep q _ h3 h5
    rw [List.getElem_append_left e]
    exact ⟨q, c, by rw [List.getElem?_append_left (by omega)]; exact h1, by rw [List.getElem?_append_left (by omega)]; exact h2, k1, h4, k2⟩
  · obtain rfl : i = l.length := by omega
    obtain ⟨k1, k2⟩ := keep mp _ hma hmr
    have hx : (l ++ [x])[l.length]'(by simp) = x := by simp
    rw [hx]
    refine ⟨mp, mc, ?_, ?_, k1, hmb, k2⟩
    · rw [List.getElem?_append_right (by omega), hxs]; simp
    · rw [List.getElem?_append_right (by omega), hxs]; simp

theorem info_ch : (Try.prog.info? 105).map (fun i => (i.zero, i.size, i.bytes)) = some (some (.agg #[.int .u64 0, .slice none 0 0]), 2, 32) := by kernel_rfl
theorem hnews2 {w w' : World} {v u : Value} {t : TypeId} {g : Nat} (hE : Ext (w.alloc (.cells #[v, u] t)) w') (hg : g = w.heap.size) : ∀ j y, [v, u][j]? = some y → w'.cell? ((⟨g, 0, none⟩ : Addr).add j) = some y := by
  intro j y hj
  subst hg
  match j, hj with
  | 0, hj =>
    simp at hj
    subst hj
    have := hE.cell ((cell_of_heap (heap_new w (.cells #[v, u] t)) 0).trans rfl)
    simpa [Addr.add] using this
  | 1, hj =>
    simp at hj
    subst hj
    have := hE.cell ((cell_of_heap (heap_new w (.cells #[v, u] t)) 1).trans rfl)
    simpa [Addr.add] using this
theorem one_ch (n : Int) (q : Option Addr) (a b : Nat) : ∀ u ∈ [Value.int .u64 n, Value.slice q a b], u.oneCell' = true := by
  intro u hu
  simp at hu
  rcases hu with rfl | rfl <;> rfl

/-- choices in a slice -/
def ChsV (w : World) (v : Value) (l : List Ch) : Prop := ∃ p c, v = .slice p l.length c ∧ ChsAt w p l
theorem ChsR.out {M B : Nat} {W : World} {u : Value} {xs : List Value} {l : List Ch} (h : ChsR M W u.ownBlock xs l) (ho : W.ownsRow B 105 2 u l.length xs) : ChsV W u l := by
  rcases ho.2 with ⟨rfl, h0⟩ | ⟨g, cap, cur, rfl, -, hg, hc, -, hs, hx⟩
  · have : l = [] := List.length_eq_zero_iff.1 h0
    subst this
    exact ⟨none, 0, rfl, fun i hi => absurd hi (by simp)⟩
  · refine ⟨_, _, rfl, fun i hi => ?_⟩
    obtain ⟨q, c, h1, h2, h3, -, -⟩ := h i hi
    refine ⟨g, 0, q, c, rfl, ?_, ?_, h3⟩
    · rw [cell_of_heap hg, ← h1, ← hx, List.getElem?_take, if_pos (by omega), Nat.zero_add]; simp
    · rw [cell_of_heap hg, ← h2, ← hx, List.getElem?_take, if_pos (by omega), Nat.zero_add]; simp

set_option maxRecDepth 20000 in
set_option maxHeartbeats 6400000 in
theorem AppendSeq03 (X : Wr) (hX : ValidW X) (p q : Option Addr) (c d long b : Nat) (hl : (long : Int) ≤ X.weeks) (w wa : World) (hIt : CiAt X p q c d b long wa w) (hR : RecsAt wa q X.recs) (hG : IntsAt wa p X.rough) :
    Calls Try.prog 92 #[.slice none 0 0, .func (.func 93) #[] #[.pointer (some ⟨b + 1, 0, none⟩), .pointer (some ⟨b, 0, none⟩)]] w fun e w' => ∃ u, e = .returned u ∧ ChsV w' u (choicesW X long) ∧ Ext w w' := by
  have HX := Lib.hid hX
  have HRA := Lib.hid hR
  have HGA := Lib.hid hG
  have hbw : b + 1 < w.heap.size := (Array.getElem?_eq_some_iff.1 hIt.long).1
  have hwaw := hIt.ext.size
  have HIT0 := Lib.hid hIt
  obtain ⟨i1, hi1, hy0, hy1, hy2⟩ := info_parts info_ch
  have hl6 : long ≤ 6 := by have := hX.weeks; omega
  have hlen : (choicesW X long).length ≤ 64 := by
    have h1 := List.length_filterMap_le (fun N => chooseW X N long) (List.range (2 ^ long))
    have h2 : 2 ^ long ≤ 64 := Nat.pow_le_pow_right (n := 2) (by decide) hl6
    unfold choicesW
    rw [List.length_range] at h1
    omega
  clear hX hR hG hIt
  refine calls_of_marks Try.func92 rfl ?_
  simp only [Try.ntmps92, List.size_toArray, List.length_cons, List.length_nil, Nat.reduceAdd, Nat.reduceSub, Array.replicate_succ, Array.replicate_zero, List.push_toArray, List.append_toArray, List.nil_append, List.cons_append]
  go_wp2
  obtain ⟨W6, hW6⟩ : ∃ W6, W6 = w.alloc (.cells #[.slice none 0 0] 109) := ⟨_, rfl⟩
  have hn6 := heap_new w (.cells #[.slice none 0 0] 109)
  have hE6 : Ext w W6 := by rw [hW6]; exact Ext.alloc (Ext.refl _) _
  have hs6 : W6.heap.size = w.heap.size + 1 := by rw [hW6]; simp only [size_alloc]
  rw [← hW6] at hn6 ⊢
  obtain ⟨B, hB⟩ : ∃ B, B = w.heap.size := ⟨_, rfl⟩
  rw [← hB] at hn6 ⊢
  have HIT : Hid (CiAt X p q c d b long wa W6) := Lib.hid (HIT0.out.fr (hE6.fr (fun _ => False)) (fun h => h) (fun h => h) (fun _ h => h.elim))
  have HI6 : Hid (Ext w W6 ∧ ∃ u xs, W6.heap[B]? = some (.cells #[u] 109 (0, 0)) ∧ W6.ownsRow (W6.heap.size + 2) 105 2 u ([] : List Ch).length xs ∧ ChsR (W6.heap.size + 2) W6 u.ownBlock xs []) :=
    Lib.hid ⟨hE6, _, [], hn6, World.ownsRow_nil _ _ _ _, fun i hi => absurd hi (by simp)⟩
  have HE6 := Lib.hid hE6
  have hBn : B < W6.heap.size := by omega
  have hwB : w.heap.size ≤ B := by omega
  have hbB : b + 1 < B := by omega
  clear hW6 hn6 hE6 hs6 hB HIT0
  refine (wpIn_wide (n := 0)).1 ?_
  refine range_lawV (fst := #[]) (gf := 93) (cap := #[.pointer (some ⟨b + 1, 0, none⟩), .pointer (some ⟨b, 0, none⟩)]) rfl Try.call93
    (ChOK X) (choicesW X long) (fun k => k = B ∨ W6.heap.size + 2 ≤ k) (fun _ => False) ?hE (fun _ h => h.elim) (fun pre x v W => ChK (W6.heap.size + 2) W v x ∧ pre.length < 64) (fun _ => True)
    (fun pre W => Ext w W ∧ ∃ u xs, W.heap[B]? = some (.cells #[u] 109 (0, 0)) ∧ W.ownsRow (W6.heap.size + 2) 105 2 u pre.length xs ∧ ChsR (W6.heap.size + 2) W u.ownBlock xs pre) (fun _ _ _ => False)
    ?hI (fun _ _ _ _ h _ _ => h) (fun _ _ h _ => h) HI6.out ?hiter ?hround ?hdone (fun _ _ _ _ h _ => h.elim)
  case hE => constructor <;> omega
  case hI =>
    rintro pre A C ⟨h1, u, xs, h2, h3, h4⟩ hF hz
    have hD : ∀ k, W6.heap.size + 2 ≤ k → ¬(False ∨ k = W6.heap.size ∨ k = W6.heap.size + 1) := fun k hk h => by rcases h with h | h | h; exact h; omega; omega
    exact ⟨Fr.ext h1 hF (fun i hi => by rcases hi with h | h | h; exact h.elim; omega; omega), u, xs, (hF.block _ (Array.getElem?_eq_some_iff.1 h2).1 (fun h => by rcases h with h | h | h; exact h; omega; omega)).trans h2,
      ownsRow_fr h3 hF (fun g hg => hD g (h3.lt g hg).1), h4.fr hF hD⟩
  case hiter =>
    intro lp J Jx hJ hJx hno hY A hA hz hj
    refine callsIn_wide.2 ?_
    exact itch03 X HX.out p q c d b long hl W6 (fun k => k = B ∨ W6.heap.size + 2 ≤ k) lp wa HIT.out HRA.out HGA.out (fun k h => ⟨by omega, by omega, by omega⟩) J Jx hJ hJx hY A hA hz hj
  case hround =>
    rintro lp pre x v A hok hlp ⟨hA, u, xs, h2, h3, h4⟩ ⟨⟨mp, mc, rfl, hma, hmb, hmt⟩, hpl⟩ hz
    obtain ⟨H, hH⟩ : ∃ H, H = A.heap.size := ⟨_, rfl⟩
    have hn := heap_new A (.cells #[.int .u64 x.needles, .slice mp x.records.length mc] 105)
    gi_wp2
    refine ⟨Ext.alloc (Ext.refl A) _, fun W2 hW2 => ?_⟩
    have hF2 : Fr (fun k => k = lp) A W2 := ((Fr.refl (fun k => k = lp) A).alloc _).trans (hW2.fr rfl)
    have hH2 : W2.heap[H]? = some (.cells #[.int .u64 x.needles, .slice mp x.records.length mc] 105) := by rw [hH]; exact (hW2.block _ (by omega)).trans hn
    have hne : ∀ k, W6.heap.size + 2 ≤ k → ¬(k = lp) := fun k hk h => by omega
    have h22 := (hF2.block B (Array.getElem?_eq_some_iff.1 h2).1 (by omega)).trans h2
    have h32 := ownsRow_fr h3 hF2 (fun g hg => hne g (h3.lt g hg).1)
    have h42 := h4.fr hF2 hne
    have hma2 := hma.fr hF2 (fun a ha => hne _ (hmb a ha))
    have hmr : ∀ a, mp = some a → x.records ≠ [] → u.ownBlock ≠ some a.block := fun a ha _ e => by
      obtain ⟨cs, hcs⟩ := hmt a ha
      rcases h3.2 with ⟨hv, -⟩ | ⟨g, cap, cur, hv, -, hg, -⟩
      · rw [hv] at e; cases e
      · rw [hv] at e
        have e2 : g = a.block := Option.some.inj e
        rw [e2, hcs] at hg
        cases hg
    have hE2 : Ext w W2 := Fr.ext hA hF2 (fun i hi => by omega)
    rw [← hH]
    have u0 : W2.cell? ⟨H, 0, none⟩ = some (.int .u64 x.needles) := (cell_of_heap hH2 0).trans rfl
    have u1 : W2.cell? ⟨H, 1, none⟩ = some (.slice mp x.records.length mc) := (cell_of_heap hH2 1).trans rfl
    have t0 : W2.cell? ⟨B, 0, none⟩ = some u := (cell_of_heap h22 0).trans rfl
    have hBl := (Array.getElem?_eq_some_iff.1 h22).1
    have H22 := Lib.hid h22
    have H32 := Lib.hid h32
    have H42 := Lib.hid h42
    have HMA := Lib.hid hma2
    have HMB := Lib.hid hmb
    have HMR := Lib.hid hmr
    have HE2 := Lib.hid hE2
    have hxs := h3.1
    have hzs := hF2.size
    clear hF2 hH2 h22 h32 h42 hma2 hmr hE2 hn hH h2 h3 h4 hma hmb hmt hW2 hA hne
    gi_wp2_with (first
      | (gi_at_builtin; refine wpListIn_append_lies _ rfl _ _ 109 rfl (W6.heap.size + 2) 105 i1 (.agg #[.int .u64 0, .slice none 0 0]) 2 32 Try.underlying109 hi1 hy0 hy1 hy2 rfl (by decide) u pre.length xs rfl (ownsRow_ext H32.out (by repeat (first | exact Ext.refl _ | refine Ext.alloc ?_ _ | refine Ext.drew ?_))) ⟨_, 0, none⟩ 1 1 [.int .u64 x.needles, .slice mp x.records.length mc] rfl rfl (hnews2 (by repeat (first | exact Ext.refl _ | refine Ext.drew ?_)) rfl) (one_ch _ _ _ _) (by decide) (by unfold maxLen; omega) (by omega) (by rw [size_alloc]; omega) ?_)
      | gi_in)
    intro g cap w8 hown hgrn hat
    have hub : ∀ i, u.ownBlock = some i → W6.heap.size + 2 ≤ i := fun i hi => (H32.out.lt i hi).1
    have hB8 : w8.heap[B]? = some (.cells #[u] 109 (0, 0)) := (((grown_fr hgrn).block B (by rw [size_alloc]; omega) (fun e => by have := hub B e; omega)).trans (heap_old _ H22.out))
    have hch := ChsR.step (x := x) (g := g) (mp := mp) (mc := mc) (H42.out.fr (E := fun _ => False) ((Fr.refl _ _).alloc (.cells #[.int .u64 x.needles, .slice mp x.records.length mc] 105)) (fun _ _ h => h)) hxs hgrn (by rw [size_alloc]; exact hat) (HMA.out.ext (Ext.alloc (Ext.refl _) _)) HMB.out HMR.out
    have hFr : Fr (fun k => k = B ∨ W6.heap.size + 2 ≤ k) W2 w8 := ((Fr.refl _ _).alloc _).trans ((grown_fr hgrn).mono fun k h => .inr (hub k h))
    have HB8 := Lib.hid hB8
    have HCH := Lib.hid hch
    have HFR := Lib.hid hFr
    have HOW := Lib.hid hown
    have s0 : w8.cell? ⟨B, 0, none⟩ = some u := (cell_of_heap hB8 0).trans rfl
    have s1 := cell_frozen hB8 0
    clear hown hgrn hat hub hB8 hch hFr t0 u0 u1
    gi_wp2
    refine and_dep (HFR.out.set (.inl rfl)) (fun hx => ⟨Fr.ext HE2.out hx (fun i hi => by omega), _, xs ++ [.int .u64 x.needles, .slice mp x.records.length mc], heap_set HB8.out rfl, ?_, ?_⟩)
    · rw [List.length_append, List.length_singleton]
      exact ownsRow_fr (E := fun k => k = B) HOW.out ((Fr.refl _ _).set rfl) (fun b hb e => by have h1 := (HOW.out.lt b hb).1; have e2 : b = B := e; omega)
    · exact HCH.out.fr (E := fun k => k = B) ((Fr.refl _ _).set rfl) (fun k hk e => by have e2 : k = B := e; omega)
  case hdone =>
    rintro A ⟨hA, u, xs, h2, h3, h4⟩ - hd
    have HA := Lib.hid hA
    have HD := Lib.hid hd
    have t0 : A.cell? ⟨B, 0, none⟩ = some u := (cell_of_heap h2 0).trans rfl
    have HV := Lib.hid (h4.out h3)
    have hsz := HE6.out.size
    have HF : Hid (∀ W', But W6.heap.size A W' → ChsV W' u (choicesW X long)) := Lib.hid fun W' hW' => by
      have hF : Fr (fun k => k = W6.heap.size) A W' := hW'.fr rfl
      exact (h4.fr hF (fun k hk e => by omega)).out (ownsRow_fr h3 hF (fun g hg e => by have := (h3.lt g hg).1; omega))
    clear hA hd h2 h3 h4
    go_wp2
    refine marks_ret (v := u) HD.out (fun _ _ => results_tmp (t := 4) rfl _ _ _) (fun W' hW' => ⟨u, rfl, HF.out W' hW', HA.out.trans' (hW'.below hsz)⟩)
end Go.Proofs.Ytkcilgjkdiopnaa
namespace Go.Proofs.Ytkcilgjkdiopnaa
open Go.RowKit

set_option maxHeartbeats 800000 in
theorem Collect03 (X : Wr) (hX : ValidW X) (p q : Option Addr) (c d long b : Nat) (hl : (long : Int) ≤ X.weeks) (w wa : World) (hIt : CiAt X p q c d b long wa w) (hR : RecsAt wa q X.recs) (hG : IntsAt wa p X.rough) :
    Calls Try.prog 63 #[.func (.func 93) #[] #[.pointer (some ⟨b + 1, 0, none⟩), .pointer (some ⟨b, 0, none⟩)]] w fun e w' => ∃ u, e = .returned u ∧ ChsV w' u (choicesW X long) ∧ Ext w w' := by
  have HA := Lib.hid (AppendSeq03 X hX p q c d long b hl w wa hIt hR hG)
  clear hX hIt hR hG
  go_enter Try.func63, Try.ntmps63
  go_wp2_with (go_at_call 92; refine HA.out.mono ?_; rintro e w' ⟨u, rfl, hu, hE⟩)
  go_ret
  exact ⟨u, rfl, hu, hE⟩

set_option maxHeartbeats 800000 in
theorem IndexFuncCh (p : Option Addr) (l : List Ch) (c g : Nat) (cap : Array Value) (w : World) (q : Ch → Prop) (hl : l.length ≤ 100000) (h : ChsAt w p l) (ha : Asks ChV g #[] cap w l q) :
    Calls Try.prog 96 #[.slice p l.length c, .func (.func g) #[] cap] w (IdxPost (∃ x ∈ l, q x) w) := by
  obtain ⟨hcall, hf⟩ := ha
  have HF := Lib.hid hf
  clear hf
  go_enter Try.func96, Try.ntmps96
  go_wp2
  go_loopw [8] (fun i wr => ∃ k : Nat, k ≤ l.length ∧ i = .int .i64 k ∧ (∀ x ∈ l.take k, ¬q x) ∧ Ext w wr) (fun i _ => l.length - (intOf i).toNat)
  case atStart => exact ⟨0, by omega, rfl, by simp, Ext.refl _⟩
  case round =>
    obtain ⟨k, hk, rfl, hr, hE⟩ := hrel
    have HR := Lib.hid hr
    clear hr
    by_cases hlt : k < l.length
    · obtain ⟨b, o, q', c', rfl, hc, hd, hq'⟩ := (h.ext hE) k hlt
      have hC := HF.out wr (.agg #[.int .u64 l[k].needles, .slice q' (l[k]).records.length c']) l[k] hE (List.getElem_mem hlt) ⟨q', c', rfl, hq'⟩
      simp only [List.append_toArray, List.nil_append] at hC
      by_cases hq : q l[k]
      · have HC := Lib.hid (RetE.bt hq hC)
        have HQ := Lib.hid hq
        clear hC hq
        go_wp2_with fail
        refine HC.out.mono ?_
        rintro e W2 ⟨rfl, hE2⟩
        go_wp2
        go_ret
        exact ⟨k, rfl, ⟨fun _ => ⟨_, List.getElem_mem hlt, HQ.out⟩, fun _ => by omega⟩, hE.trans hE2⟩
      · have HC := Lib.hid (RetE.bf hq hC)
        have HQ := Lib.hid hq
        clear hC hq
        go_wp2_with fail
        refine HC.out.mono ?_
        rintro e W2 ⟨rfl, hE2⟩
        go_wp2
        go_roundw
        case rel => exact ⟨k + 1, by omega, by go_num, by
          rw [List.take_succ_eq_append_getElem hlt]
          intro x hx
          rcases List.mem_append.1 hx with h1 | h1
          · exact HR.out x h1
          · rw [List.mem_singleton.1 h1]; exact HQ.out, hE.trans hE2⟩
        case measure => simp [intOf]; omega
    · go_wp2
      go_ret
      exact ⟨-1, rfl, ⟨fun h => absurd h (by decide), fun ⟨x, hx, hqx⟩ => absurd hqx (HR.out x (by rwa [List.take_of_length_le (by omega)]))⟩, hE⟩

set_option maxHeartbeats 400000 in
theorem ContainsFuncCh (p : Option Addr) (l : List Ch) (c g : Nat) (cap : Array Value) (w : World) (q : Ch → Prop) (hl : l.length ≤ 100000) (h : ChsAt w p l) (ha : Asks ChV g #[] cap w l q) :
    Calls Try.prog 66 #[.slice p l.length c, .func (.func g) #[] cap] w (RetE (.bool (bP (∃ x ∈ l, q x))) w) := by
  have HC := Lib.hid (IndexFuncCh p l c g cap w q hl h ha)
  clear ha
  go_enter Try.func66, Try.ntmps66
  go_wp2_with fail
  refine HC.out.mono ?_
  rintro e W2 ⟨n, rfl, hn, hE2⟩
  have HN := Lib.hid hn
  clear hn
  go_wp2
  go_ret
  exact RetE.of hE2 (by rw [← HN.out]; simp)

set_option maxRecDepth 20000 in
set_option maxHeartbeats 1600000 in
theorem worthFn03 (X : Wr) (hX : ValidW X) (p q : Option Addr) (cp d B PB LB : Nat) (price least : Int) (hp : 0 ≤ price ∧ price ≤ 999) (u : Value) (c : Ch) (w : World) (hu : ChV w u c) (hc : ChOK X c) (hR : RecsAt w q X.recs) (hG : IntsAt w p X.rough)
    (hB : w.heap[B]? = some (bxO X p cp q d)) (hP : w.cell? ⟨PB, 0, none⟩ = some (.int .i64 price)) (hL : w.cell? ⟨LB, 0, none⟩ = some (.int .i64 least)) :
    Calls Try.prog 67 #[u, .pointer (some ⟨B, 0, none⟩), .pointer (some ⟨PB, 0, none⟩), .pointer (some ⟨LB, 0, none⟩)] w (RetE (.bool (bP (c.needles ≠ 0 ∧ allW X c price = least))) w) := by
  have hml := hc.needles
  have hal := fun w' (h : Ext w w') => all03 (.agg #[.int .i64 X.weeks, .int .i64 X.price, .int .i64 X.age, .int .i64 X.step, .slice p X.rough.length cp, .slice q X.recs.length d]) u X c price w' ⟨_, _, _, _, rfl, hG.ext h, hR.ext h⟩ hX (ChV.mono _ _ _ _ h hu) hc hp
  obtain ⟨s, cs, rfl, hma⟩ := hu
  have HAL := Lib.hid hal
  unfold bxO at hB
  clear hal hX hR hG hma
  go_enter Try.func67, Try.ntmps67
  go_upto_region 1 with (fail)
  have hn := heap_new w (.cells #[.int .u64 c.needles, .slice s c.records.length cs] 105)
  obtain ⟨W, hW⟩ : ∃ W, W = w.alloc (.cells #[.int .u64 c.needles, .slice s c.records.length cs] 105) := ⟨_, rfl⟩
  have hE : Ext w W := by rw [hW]; exact Ext.alloc (Ext.refl w) _
  rw [← hW] at hn ⊢
  have hBw := (Below.block hE B (Array.getElem?_eq_some_iff.1 hB).1).trans hB
  have c0 := ExtW.cell (v := .int .u64 c.needles) (cell_of_heap hn 0)
  have c1 := ExtW.cell (v := .slice s c.records.length cs) (cell_of_heap hn 1)
  have d0 := ExtW.cell (v := .int .i64 X.weeks) (cell_of_heap hBw 0)
  have d1 := ExtW.cell (v := .int .i64 X.price) (cell_of_heap hBw 1)
  have d2 := ExtW.cell (v := .int .i64 X.age) (cell_of_heap hBw 2)
  have d3 := ExtW.cell (v := .int .i64 X.step) (cell_of_heap hBw 3)
  have d4 := ExtW.cell (v := .slice p X.rough.length cp) (cell_of_heap hBw 4)
  have d5 := ExtW.cell (v := .slice q X.recs.length d) (cell_of_heap hBw 5)
  have e0 := ExtW.cell (hE.cell hP)
  have e1 := ExtW.cell (hE.cell hL)
  have HA := Lib.hid (fun y : ExtW W => ExtW.call (HAL.out y.w (hE.trans y.h)))
  have HE := Lib.hid hE
  obtain ⟨aw, haw⟩ : ∃ aw, aw = allW X c price := ⟨_, rfl⟩
  rw [← haw] at HA
  have HAW := Lib.hid haw
  obtain ⟨nn, hnn⟩ : ∃ nn, nn = c.needles := ⟨_, rfl⟩
  rw [← hnn] at c0 hml HA
  have HNN := Lib.hid hnn
  obtain ⟨x0, hx0⟩ := ExtW.of (Ext.refl W)
  clear hW hn hE hBw hB hP hL HAL haw hnn
  conv => arg 5; rw [hx0]
  clear hx0
  by_cases h0 : nn = 0
  · have h0' : ((nn : Int) != 0) = false := by simp [h0]
    have H0 := Lib.hid h0
    clear h0
    refine wp_region_extW (by kernel_rfl) (by kernel_rfl) ?_
    repeat (go_big_quiet_step (fail))
    refine wpQuiet_nil ?_
    rintro _ ⟨x1, rfl⟩
    go_wp2
    go_ret
    exact RetE.ff (HE.out.trans x1.h) (fun h => h.1 (HNN.out.symm.trans H0.out))
  · have h0' : ((nn : Int) != 0) = true := by simp; omega
    have H0 := Lib.hid h0
    clear h0
    refine wp_region_extW (by kernel_rfl) (by kernel_rfl) ?_
    repeat (go_big_quiet_step ((go_at_call 65; exact HA.out _)))
    refine wpQuiet_nil ?_
    rintro _ ⟨x1, rfl⟩
    go_wp2
    go_ret
    refine RetE.of (HE.out.trans x1.h) ?_
    rw [← HAW.out]
    simp only [beq_iff_eq]
    exact ⟨fun h => ⟨fun e => H0.out (HNN.out.trans e), h⟩, fun h => h.2⟩
end Go.Proofs.Ytkcilgjkdiopnaa
namespace Go.Proofs.Ytkcilgjkdiopnaa
open Go.RowKit

def StpT (a b : World) : Prop := Ext a b
theorem StpT.out {a b : World} (h : StpT a b) : Ext a b := h
theorem StpT.mk {a b : World} (h : Ext a b) : StpT a b := h
theorem guard_op {ops : Array Oper} {E : Prop} {w : World} {o : Oper} {a : Act} {K : Act → World → Prop} {Q : Exit → Act → World → Prop} (c : Op) (_ho : o.op = c)
    (h : if Region.wanted o (yielded ops a.tmps) = true then Oper.wp Try.prog o a w K Q else E) : if Region.wanted o (yielded ops a.tmps) = true then Oper.wp Try.prog o a w K Q else E := h

/-- the least cost of the first choices, if a needle has a price -/
def minTo (X : Wr) (price m : Int) (l : List Ch) : Int := l.foldl (fun m c => min m (allW X c price)) m
theorem minTo_snoc (X : Wr) (price m : Int) (l : List Ch) (c : Ch) : minTo X price m (l ++ [c]) = min (minTo X price m l) (allW X c price) := by simp [minTo]
theorem minTo_bd {X : Wr} (hX : ValidW X) {price m : Int} (hp : 0 ≤ price ∧ price ≤ 999) (hm : 0 ≤ m ∧ m ≤ 30000) : ∀ (l : List Ch), (∀ c ∈ l, ChOK X c) → 0 ≤ minTo X price m l ∧ minTo X price m l ≤ 30000 := by
  intro l
  induction l generalizing m with
  | nil => intro _; exact hm
  | cons c r ih =>
    intro h
    have := allW_bd hX (h c (by simp)) hp
    exact ih (show 0 ≤ min m (allW X c price) ∧ min m (allW X c price) ≤ 30000 by omega) (fun c hc => h c (by simp [hc]))
def minP (X : Wr) (l : List Ch) (price : Int) : Int := minTo X price (allW X (l.getD 0 ⟨0, []⟩) price) l
/-- a choice of the least cost replaces the needle, if it has a price -/
def paysB (X : Wr) (l : List Ch) (price : Int) : Bool := l.any fun c => decide (c.needles ≠ 0) && decide (allW X c price = minP X l price)
theorem paysB_iff (X : Wr) (l : List Ch) (price : Int) : paysB X l price = true ↔ ∃ c ∈ l, c.needles ≠ 0 ∧ allW X c price = minP X l price := by simp [paysB]
/-- the greatest price below n for which it does -/
def worthTo (X : Wr) (l : List Ch) : Nat → Option Nat
  | 0 => none
  | n + 1 => if paysB X l n = true then some n else worthTo X l n
theorem worthTo_skip (X : Wr) (l : List Ch) {n : Nat} : ∀ N, n ≤ N → (∀ m : Nat, n ≤ m → m < N → paysB X l m = false) → worthTo X l N = worthTo X l n := by
  intro N
  induction N with
  | zero => intro h _; obtain rfl : n = 0 := by omega
            rfl
  | succ N ih =>
    intro h hm
    by_cases e : n = N + 1
    · rw [e]
    · rw [worthTo, if_neg (by rw [hm N (by omega) (by omega)]; simp)]
      exact ih (by omega) (fun m h1 h2 => hm m h1 (by omega))
def worthV (X : Wr) : Value := match bestW X with
  | none => .tuple #[.int .i64 0, .int .i64 3]
  | some _ => match worthTo X (choicesW X X.weeks.toNat) 1000 with
    | some p => .tuple #[.int .i64 p, .int .i64 0]
    | none => .tuple #[.int .i64 0, .int .i64 3]
theorem leastL_none {f : Ch → Int} {l : List Ch} : leastL f l = none ↔ l = [] := by
  have key : ∀ (l : List Ch) (b : Ch), l.foldl (leastS f) (some b) ≠ none := by
    intro l
    induction l with
    | nil => intro b h; cases h
    | cons c r ih =>
      intro b h
      simp only [List.foldl_cons, leastS] at h
      split at h
      · exact ih _ h
      · exact ih _ h
  constructor
  · intro h
    cases l with
    | nil => rfl
    | cons c r => exact absurd h (key r c)
  · intro h; rw [h]; rfl

def ptrInt (u : Value) (w : World) : Nat := match u with
  | .pointer (some a) => match w.cell? a with
    | some v => (intOf v + 1).toNat
    | none => 0
  | _ => 0
theorem ptrInt_eq {w : World} {B : Nat} {n : Int} (h : w.cell? ⟨B, 0, none⟩ = some (.int .i64 n)) : ptrInt (.pointer (some ⟨B, 0, none⟩)) w = (n + 1).toNat := by
  simp only [ptrInt, h, intOf]

set_option maxRecDepth 20000 in
set_option maxHeartbeats 6400000 in
theorem Worth03 (v : Value) (X : Wr) (w : World) (hv : WrV w v X) (hX : ValidW X) (hM : ModestW X) : Calls Try.prog 28 #[v] w (RetE (worthV X) w) := by
  obtain ⟨p, cp, q, d, rfl, hG, hR⟩ := hv
  have hse := fun w' (h : Ext w w') => seek03 X hX p q cp d 62 _ (says_whole X hX) w' hM (hR.ext h) (hG.ext h)
  have HSE := Lib.hid hse
  have HX := Lib.hid hX
  have HR := Lib.hid hR
  have HG := Lib.hid hG
  obtain ⟨wk, hwk⟩ : ∃ wk : Nat, X.weeks = wk := ⟨X.weeks.toNat, by have := hX.weeks; omega⟩
  have hwk6 : wk ≤ 6 := by have := hX.weeks; omega
  have HWK := Lib.hid hwk
  clear hse hX hR hG hM hwk
  go_enter Try.func28, Try.ntmps28
  go_upto_region 1 with (fail)
  obtain ⟨W, hW⟩ : ∃ W, W = w.alloc (.cells #[.int .i64 X.weeks, .int .i64 X.price, .int .i64 X.age, .int .i64 X.step, .slice p X.rough.length cp, .slice q X.recs.length d] 25) := ⟨_, rfl⟩
  have hn := heap_new w (.cells #[.int .i64 X.weeks, .int .i64 X.price, .int .i64 X.age, .int .i64 X.step, .slice p X.rough.length cp, .slice q X.recs.length d] 25)
  have hE : Ext w W := by rw [hW]; exact Ext.alloc (Ext.refl w) _
  rw [← hW] at hn ⊢
  have q0 := cell_of_heap hn 0
  have q1 := cell_of_heap hn 1
  have q2 := cell_of_heap hn 2
  have q3 := cell_of_heap hn 3
  have q4 := cell_of_heap hn 4
  have q5 := cell_of_heap hn 5
  simp at q0 q1 q2 q3 q4 q5
  have HS := Lib.hid (HSE.out W hE)
  have HE := Lib.hid hE
  have HNW := Lib.hid hn
  clear hW hn hE HSE
  cases hb : bestW X with
  | none =>
    have hb' := hb
    unfold bestW at hb'
    rw [hb'] at HS
    have HB := Lib.hid hb
    clear hb hb'
    go_wp2_with (go_at_call 61; refine HS.out.mono ?_; rintro e W2 ⟨hE2, rfl⟩; unfold zeroCh)
    go_ret2
    refine RetE.fin ?_ (by unfold worthV; rw [HB.out]; rfl)
    have := HE.out.trans hE2
    repeat (with_reducible (first | refine Ext.drew ?_ | refine Ext.alloc ?_ _ | exact this))
  | some bc =>
    have hb' := hb
    unfold bestW at hb'
    rw [hb'] at HS
    have hne : choicesW X wk ≠ [] := fun e => by
      have h1 : choicesW X X.weeks.toNat = [] := by rw [HWK.out]; exact e
      rw [h1] at hb'
      cases hb'
    have HB := Lib.hid hb
    clear hb hb'
    obtain ⟨L, hL⟩ : ∃ L, L = choicesW X wk := ⟨_, rfl⟩
    have hok : ∀ c ∈ L, ChOK X c := fun c hc => choices_ok HX.out hwk6 (hL ▸ hc)
    have hlen : L.length ≤ 64 := by
      have h1 := List.length_filterMap_le (fun N => chooseW X N wk) (List.range (2 ^ wk))
      have h2 : 2 ^ wk ≤ 64 := Nat.pow_le_pow_right (n := 2) (by decide) hwk6
      rw [hL]
      unfold choicesW
      rw [List.length_range] at h1
      omega
    have hpos : 0 < L.length := by rw [hL]; exact List.length_pos_iff.2 hne
    have HOKL := Lib.hid hok
    have HWV : Hid (worthV X = match worthTo X L 1000 with | some p => .tuple #[.int .i64 p, .int .i64 0] | none => .tuple #[.int .i64 0, .int .i64 3]) := Lib.hid (by
      unfold worthV
      rw [HB.out, hL, HWK.out]
      rfl)
    have HL := Lib.hid hL
    clear hok hne hL
    go_upto_region 2 with (go_at_call 61; refine HS.out.mono ?_; rintro e W2 ⟨hE2, u, rfl, ⟨mp, mc, rfl, hma, -⟩⟩)
    obtain ⟨W3, hW3⟩ : ∃ W3, W3 = (W2.alloc (bxO X p cp q d)).alloc (.cells #[.int .u64 bc.needles, .slice mp bc.records.length mc] 105) := ⟨_, rfl⟩
    have g0 := heap_new1 W2 (bxO X p cp q d) (.cells #[.int .u64 bc.needles, .slice mp bc.records.length mc] 105)
    rw [← hW3] at g0
    have hE3 : Ext W2 W3 := by rw [hW3]; exact Ext.alloc (Ext.alloc (Ext.refl _) _) _
    unfold bxO at hW3
    rw [← hW3]
    obtain ⟨bb, hbb⟩ : ∃ bb, bb = W2.heap.size := ⟨_, rfl⟩
    rw [← hbb] at g0 ⊢
    have hEw := (HE.out.trans hE2).trans hE3
    have hbbl : bb < W3.heap.size := (Array.getElem?_eq_some_iff.1 g0).1
    have d0 : W3.cell? ⟨bb, 0, none⟩ = some (.int .i64 X.weeks) := (cell_of_heap g0 0).trans rfl
    have d1 : W3.cell? ⟨bb, 1, none⟩ = some (.int .i64 X.price) := (cell_of_heap g0 1).trans rfl
    have d2 : W3.cell? ⟨bb, 2, none⟩ = some (.int .i64 X.age) := (cell_of_heap g0 2).trans rfl
    have d3 : W3.cell? ⟨bb, 3, none⟩ = some (.int .i64 X.step) := (cell_of_heap g0 3).trans rfl
    have d4 : W3.cell? ⟨bb, 4, none⟩ = some (.slice p X.rough.length cp) := (cell_of_heap g0 4).trans rfl
    have d5 : W3.cell? ⟨bb, 5, none⟩ = some (.slice q X.recs.length d) := (cell_of_heap g0 5).trans rfl
    have r0 : W3.cell? ⟨w.heap.size, 0, none⟩ = some (.int .i64 wk) := by rw [← HWK.out]; exact (hE2.trans hE3).cell ((cell_of_heap HNW.out 0).trans rfl)
    have HCI := Lib.hid (choices03 X p q cp d wk W3)
    have HW3 := Lib.hid hEw
    have HG0 := Lib.hid g0
    clear hW3 g0 hE3 hEw hE2 hma hbb q0 q1 q2 q3 q4 q5 HNW HE
    go_upto_region 5 with (first
      | (go_at_call 64; refine HCI.out.mono ?_; rintro e W4 ⟨rfl, i0, i1, hE4⟩; have hco := Collect03 X HX.out p q cp d wk W3.heap.size (by rw [HWK.out]; exact Int.le_refl _) W4 w ⟨i0, i1, HW3.out.trans hE4⟩ HR.out HG.out; rw [← HL.out] at hco; have HCO := Lib.hid hco; clear i0 i1 hco)
      | (go_at_call 63; refine HCO.out.mono ?_; rintro e W5 ⟨_, rfl, ⟨lp, lc, rfl, hch⟩, hE5⟩))
    have hE35 := hE4.trans hE5
    have hbb5 := (Below.block hE35 bb hbbl).trans HG0.out
    have hEw5 := HW3.out.trans hE35
    have hsz5 := hE35.size
    obtain ⟨b0', o0', q0', c0', rfl, -, -, -⟩ := id (hch 0 hpos)
    have HCHL := Lib.hid hch
    have HBB := Lib.hid hbb5
    have HE5 := Lib.hid hEw5
    clear HCI HCO hE4 hE5 hE35 hbb5 hEw5 hch d0 d1 d2 d3 d4 d5 r0
    go_upto_region 6 with (fail)
    obtain ⟨W6, hW6⟩ : ∃ W6, W6 = W5.alloc (.cells #[.int .i64 999] 3) := ⟨_, rfl⟩
    have hn6 := heap_new W5 (.cells #[.int .i64 999] 3)
    have hE6 : Ext W5 W6 := by rw [hW6]; exact Ext.alloc (Ext.refl _) _
    rw [← hW6] at hn6 ⊢
    have HN6 := Lib.hid hn6
    have HE6 := Lib.hid hE6
    clear hW6 hn6 hE6
    go_loopw [8] (fun t8 wr => ∃ n PB : Nat, n ≤ 1000 ∧ t8 = .pointer (some ⟨PB, 0, none⟩) ∧ wr.heap[PB]? = some (.cells #[.int .i64 ((n : Int) - 1)] 3 (0, 0)) ∧ W5.heap.size ≤ PB ∧ (∀ m : Nat, n ≤ m → m < 1000 → paysB X L m = false) ∧ Ext W5 wr) ptrInt
    case atStart => exact ⟨1000, W5.heap.size, by omega, rfl, HN6.out, Nat.le_refl _, fun m h1 h2 => absurd h1 (by omega), HE6.out⟩
    case round =>
      clear HN6 HE6
      clear W6
      obtain ⟨n, PB, hn, rfl, hpb, hPB, hno, hEr⟩ := hrel
      have HNO := Lib.hid hno
      have HER := Lib.hid hEr
      have HPB := Lib.hid hpb
      have hpc : wr.cell? ⟨PB, 0, none⟩ = some (.int .i64 ((n : Int) - 1)) := (cell_of_heap hpb 0).trans rfl
      clear hno hEr hpb
      by_cases h0 : n = 0
      · subst h0
        go_wp2
        go_ret2
        refine RetE.fin (HE5.out.trans HER.out) ?_
        rw [HWV.out, worthTo_skip X L 1000 (by omega) HNO.out]
        rfl
      · obtain ⟨pr, rfl⟩ : ∃ pr, n = pr + 1 := ⟨n - 1, by omega⟩
        rw [show ((pr + 1 : Nat) : Int) - 1 = (pr : Int) by omega] at hpc
        rw [show ((pr + 1 : Nat) : Int) - 1 = (pr : Int) by omega] at HPB
        have hprb : (0 : Int) ≤ pr ∧ (pr : Int) ≤ 999 := by omega
        have hbb := (Below.block HER.out bb (by omega)).trans HBB.out
        obtain ⟨b0x, o0x, q0, c0, he0, k0, k1, km⟩ := (HCHL.out.ext HER.out) 0 hpos
        cases he0
        have hEwr := HE5.out.trans HER.out
        have hPBl := (Array.getElem?_eq_some_iff.1 HPB.out).1
        have hS : ∀ z, Ext wr z → (z.cell? ⟨bb, 0, none⟩ = some (.int .i64 X.weeks) ∧ z.cell? ⟨bb, 1, none⟩ = some (.int .i64 X.price) ∧ z.cell? ⟨bb, 2, none⟩ = some (.int .i64 X.age) ∧ z.cell? ⟨bb, 3, none⟩ = some (.int .i64 X.step) ∧ z.cell? ⟨bb, 4, none⟩ = some (.slice p X.rough.length cp) ∧ z.cell? ⟨bb, 5, none⟩ = some (.slice q X.recs.length d)) ∧ z.cell? ⟨b0', o0', none⟩ = some (.int .u64 L[0].needles) ∧ z.cell? ⟨b0', o0' + 1, none⟩ = some (.slice q0 L[0].records.length c0) ∧ z.cell? ⟨PB, 0, none⟩ = some (.int .i64 pr) := fun z hz =>
          ⟨⟨hz.cell ((cell_of_heap hbb 0).trans rfl), hz.cell ((cell_of_heap hbb 1).trans rfl), hz.cell ((cell_of_heap hbb 2).trans rfl), hz.cell ((cell_of_heap hbb 3).trans rfl), hz.cell ((cell_of_heap hbb 4).trans rfl), hz.cell ((cell_of_heap hbb 5).trans rfl)⟩, by simpa using hz.cell k0, by simpa using hz.cell k1, hz.cell hpc⟩
        have HSS := Lib.hid hS
        have HAL := Lib.hid (fun z (hz : Ext wr z) => all03 (.agg #[.int .i64 X.weeks, .int .i64 X.price, .int .i64 X.age, .int .i64 X.step, .slice p X.rough.length cp, .slice q X.recs.length d]) (.agg #[.int .u64 L[0].needles, .slice q0 L[0].records.length c0]) X L[0] pr z ⟨_, _, _, _, rfl, HG.out.ext (hEwr.trans hz), HR.out.ext (hEwr.trans hz)⟩ HX.out ⟨_, _, rfl, km.ext hz⟩ (HOKL.out _ (List.getElem_mem hpos)) hprb)
        have HX0 := Lib.hid (Ext.refl wr)
        have HKM := Lib.hid km
        have HBW := Lib.hid hbb
        obtain ⟨a0, ha0⟩ : ∃ a0, a0 = allW X L[0] pr := ⟨_, rfl⟩
        have HA0 := Lib.hid ha0
        rw [← ha0] at HAL
        clear hS k0 k1 km hEwr ha0 hbb h0
        go_upto_region 8 with (fail)
        go_region_held3 (fun z => (z.cell? ⟨bb, 0, none⟩ = some (.int .i64 X.weeks) ∧ z.cell? ⟨bb, 1, none⟩ = some (.int .i64 X.price) ∧ z.cell? ⟨bb, 2, none⟩ = some (.int .i64 X.age) ∧ z.cell? ⟨bb, 3, none⟩ = some (.int .i64 X.step) ∧ z.cell? ⟨bb, 4, none⟩ = some (.slice p X.rough.length cp) ∧ z.cell? ⟨bb, 5, none⟩ = some (.slice q X.recs.length d)) ∧ z.cell? ⟨b0', o0', none⟩ = some (.int .u64 L[0].needles) ∧ z.cell? ⟨b0', o0' + 1, none⟩ = some (.slice q0 L[0].records.length c0) ∧ z.cell? ⟨PB, 0, none⟩ = some (.int .i64 pr))
          ((refine HSS.out _ ?_; repeat (first | with_reducible exact HX0.out | with_reducible refine Ext.alloc ?_ _ | with_reducible refine Ext.drew ?_ | with_reducible refine Ext.trans ?_ (StpT.out (by assumption)) | refine Ext.set ?_ (by omega))))
          (first
          | (go_at_call 65; refine (HAL.out _ (by repeat (first | with_reducible exact HX0.out | with_reducible refine Ext.alloc ?_ _ | with_reducible refine Ext.drew ?_ | with_reducible refine Ext.trans ?_ (StpT.out (by assumption))))).mono ?_; rintro e w6 ⟨rfl, hE6⟩; have hS6 := StpT.mk hE6; obtain ⟨hr1, hr2⟩ := Ext.rules hE6; clear hE6))
        · have hl9 := heap_new w6 (.cells #[.int .i64 a0] 3)
          have hEw6 : Ext wr w6 := (by repeat (first | with_reducible exact HX0.out | with_reducible refine Ext.alloc ?_ _ | with_reducible refine Ext.drew ?_ | with_reducible refine Ext.trans ?_ (StpT.out (by assumption))))
          have hE9 : Ext wr (w6.alloc (.cells #[.int .i64 a0] 3)) := Ext.alloc hEw6 _
          have hLBw := hEw6.size
          obtain ⟨LB, hLB⟩ : ∃ LB, LB = w6.heap.size := ⟨_, rfl⟩
          obtain ⟨W9, hW9⟩ : ∃ W9, W9 = w6.alloc (.cells #[.int .i64 a0] 3) := ⟨_, rfl⟩
          rw [← hLB, ← hW9] at hl9
          rw [← hLB] at hLBw
          rw [← hW9] at hE9
          rw [← hLB, ← hW9]
          have HL9 := Lib.hid hl9
          have HE9 := Lib.hid hE9
          clear hW9 hl9 hE9 hEw6 hr1 hr2 hLB hS6
          have ha0b : 0 ≤ a0 ∧ a0 ≤ 30000 := by rw [HA0.out]; exact allW_bd HX.out (HOKL.out _ (List.getElem_mem hpos)) hprb
          have HZ : Hid (∀ z, Fr (fun i => i = LB) W9 z → Ext wr z) := Lib.hid fun z hz => Fr.ext HE9.out hz (fun i hi => by have e : i = LB := hi; omega)
          have HCH2 : Hid (ChsAt wr (some ⟨b0', o0', none⟩) L) := Lib.hid (HCHL.out.ext HER.out)
          have HEW2 : Hid (Ext w wr) := Lib.hid (HE5.out.trans HER.out)
          have HSB : Hid (∀ z, Ext wr z → (z.cell? ⟨bb, 0, none⟩ = some (.int .i64 X.weeks) ∧ z.cell? ⟨bb, 1, none⟩ = some (.int .i64 X.price) ∧ z.cell? ⟨bb, 2, none⟩ = some (.int .i64 X.age) ∧ z.cell? ⟨bb, 3, none⟩ = some (.int .i64 X.step) ∧ z.cell? ⟨bb, 4, none⟩ = some (.slice p X.rough.length cp) ∧ z.cell? ⟨bb, 5, none⟩ = some (.slice q X.recs.length d)) ∧ z.cell? ⟨PB, 0, none⟩ = some (.int .i64 pr)) := Lib.hid fun z hz => ⟨(HSS.out z hz).1, (HSS.out z hz).2.2.2⟩
          clear HSS hpc
          go_wp2
          go_loopw [38] (fun i wr => ∃ k : Nat, k ≤ L.length ∧ i = .int .i64 k ∧ wr.heap[LB]? = some (.cells #[.int .i64 (minTo X pr a0 (L.take k))] 3 (0, 0)) ∧ Fr (fun i => i = LB) W9 wr) (fun i _ => L.length - (intOf i).toNat)
          case atStart => exact ⟨0, by omega, rfl, HL9.out, Fr.refl _ _⟩
          case round =>
            obtain ⟨k, hk, rfl, hl, hF⟩ := hrel
            have HLK := Lib.hid hl
            have HF := Lib.hid hF
            have hEz := HZ.out wr hF
            clear hl hF
            by_cases hlk : k < L.length
            · obtain ⟨b1x, o1x, q1, c1, he1, k0, k1, km⟩ := (HCH2.out.ext hEz) k hlk
              cases he1
              have hmt := minTo_bd HX.out hprb ha0b (L.take k) (fun c hc => HOKL.out c (List.mem_of_mem_take hc))
              have hsn := minTo_snoc X pr a0 (L.take k) L[k]
              rw [← List.take_succ_eq_append_getElem hlk] at hsn
              have hokc := HOKL.out _ (List.getElem_mem hlk)
              have hab := allW_bd HX.out hokc hprb
              have hall := fun z (hz : Ext wr z) => all03 (.agg #[.int .i64 X.weeks, .int .i64 X.price, .int .i64 X.age, .int .i64 X.step, .slice p X.rough.length cp, .slice q X.recs.length d]) (.agg #[.int .u64 L[k].needles, .slice q1 L[k].records.length c1]) X L[k] pr z ⟨_, _, _, _, rfl, HG.out.ext ((HEW2.out.trans hEz).trans hz), HR.out.ext ((HEW2.out.trans hEz).trans hz)⟩ HX.out ⟨_, _, rfl, km.ext hz⟩ hokc hprb
              obtain ⟨mk, hmk⟩ : ∃ mk, mk = minTo X pr a0 (L.take k) := ⟨_, rfl⟩
              obtain ⟨aw, haw⟩ : ∃ aw, aw = allW X L[k] pr := ⟨_, rfl⟩
              rw [← hmk] at hmt hsn HLK
              rw [← haw] at hsn hab hall
              obtain ⟨nx, hnx⟩ : ∃ nx, nx = L[k].needles := ⟨_, rfl⟩
              obtain ⟨rx, hrx⟩ : ∃ rx, rx = L[k].records.length := ⟨_, rfl⟩
              rw [← hnx] at k0 hall
              rw [← hrx] at k1 hall
              have HALL := Lib.hid hall
              have HSN := Lib.hid hsn
              have hif : (if aw < mk then aw else mk) = min mk aw := by rw [Int.min_def]; split <;> split <;> omega
              have HSBW := Lib.hid (fun z (hz : Ext wr z) => HSB.out z (hEz.trans hz))
              clear hall hsn hmk haw hnx hrx km hEz hokc
              go_upto_region 12 with (fail)
              obtain ⟨H, hH⟩ : ∃ H, H = wr.heap.size := ⟨_, rfl⟩
              have hn := heap_new wr (.cells #[.int .u64 nx, .slice q1 rx c1] 105)
              obtain ⟨Wb, hWb⟩ : ∃ Wb, Wb = wr.alloc (.cells #[.int .u64 nx, .slice q1 rx c1] 105) := ⟨_, rfl⟩
              have hEb : Ext wr Wb := by rw [hWb]; exact Ext.alloc (Ext.refl _) _
              rw [← hWb, ← hH] at hn
              rw [← hWb, ← hH]
              have hS : ∀ z, Ext Wb z → z.cell? ⟨LB, 0, none⟩ = some (.int .i64 mk) ∧ (z.cell? ⟨bb, 0, none⟩ = some (.int .i64 X.weeks) ∧ z.cell? ⟨bb, 1, none⟩ = some (.int .i64 X.price) ∧ z.cell? ⟨bb, 2, none⟩ = some (.int .i64 X.age) ∧ z.cell? ⟨bb, 3, none⟩ = some (.int .i64 X.step) ∧ z.cell? ⟨bb, 4, none⟩ = some (.slice p X.rough.length cp) ∧ z.cell? ⟨bb, 5, none⟩ = some (.slice q X.recs.length d)) ∧ z.cell? ⟨H, 0, none⟩ = some (.int .u64 nx) ∧ z.cell? ⟨H, 1, none⟩ = some (.slice q1 rx c1) ∧ z.cell? ⟨PB, 0, none⟩ = some (.int .i64 pr) := fun z hz =>
                ⟨(hEb.trans hz).cell ((cell_of_heap HLK.out 0).trans rfl), (HSBW.out z (hEb.trans hz)).1, hz.cell ((cell_of_heap hn 0).trans rfl), hz.cell ((cell_of_heap hn 1).trans rfl), (HSBW.out z (hEb.trans hz)).2⟩
              have HS2 := Lib.hid hS
              have HS0 := Lib.hid (hS _ (Ext.refl Wb).drew)
              have HEB := Lib.hid hEb
              have HLb := Lib.hid ((Below.block hEb LB (Array.getElem?_eq_some_iff.1 HLK.out).1).trans HLK.out)
              clear hWb hn hEb hS k0 k1 hH
              refine wp_region_heldT (fun z => z.cell? ⟨LB, 0, none⟩ = some (.int .i64 mk) ∧ (z.cell? ⟨bb, 0, none⟩ = some (.int .i64 X.weeks) ∧ z.cell? ⟨bb, 1, none⟩ = some (.int .i64 X.price) ∧ z.cell? ⟨bb, 2, none⟩ = some (.int .i64 X.age) ∧ z.cell? ⟨bb, 3, none⟩ = some (.int .i64 X.step) ∧ z.cell? ⟨bb, 4, none⟩ = some (.slice p X.rough.length cp) ∧ z.cell? ⟨bb, 5, none⟩ = some (.slice q X.recs.length d)) ∧ z.cell? ⟨H, 0, none⟩ = some (.int .u64 nx) ∧ z.cell? ⟨H, 1, none⟩ = some (.slice q1 rx c1) ∧ z.cell? ⟨PB, 0, none⟩ = some (.int .i64 pr)) 6
                [(true, 0), (true, 1), (true, 2), (true, 3), (false, 4), (true, 5)] (by kernel_rfl) (by kernel_rfl) HS0.out ?_
              simp only [List.map_cons, List.map_nil, List.getElem?_cons_zero, List.getElem?_cons_succ]
              repeat (refine wpHL_take (v := ?_) (by rfl) ?_ (fun _ _ _ h => h) ?_; rotate_left 1; (intro z hz; (try dsimp only at hz); go_simp; (try with_reducible rfl)); simp only [Act.put, List.setIfInBounds_toArray, List.set_cons_zero, List.set_cons_succ])
              refine wpHL_step (fun K hK => ?_)
              go_simp
              refine (HALL.out _ (HEB.out.trans (by repeat (first | exact Ext.refl _ | refine Ext.drew ?_)))).mono ?_
              rintro e w6 ⟨rfl, hE6⟩
              have hE6b : Ext Wb w6 := (Ext.refl Wb).drew.trans hE6
              refine hK.out _ _ (HS2.out w6 hE6b) ?_
              clear hK K hE6
              try simp only [Act.put, List.setIfInBounds_toArray, List.set_cons_zero, List.set_cons_succ]
              repeat (refine wpHL_take (v := ?_) (by rfl) ?_ (fun _ _ _ h => h) ?_; rotate_left 1; (intro z hz; (try dsimp only at hz); go_simp; (try with_reducible rfl)); simp only [Act.put, List.setIfInBounds_toArray, List.set_cons_zero, List.set_cons_succ])
              refine wpHL_nil ?_
              simp only [List.drop_succ_cons, List.drop_zero]
              have hl6 := (Below.block hE6b LB (Array.getElem?_eq_some_iff.1 HLb.out).1).trans HLb.out
              have z0 : w6.cell? ⟨LB, 0, none⟩ = some (.int .i64 mk) := (cell_of_heap hl6 0).trans rfl
              have z1 := cell_frozen hl6 0
              have HL6 := Lib.hid hl6
              have HE6 := Lib.hid hE6b
              clear hl6 hE6b
              go_wp2
              go_roundw
              case rel =>
                refine ⟨k + 1, by omega, by go_num, ?_, ((HF.out.trans (HEB.out.fr _)).trans (HE6.out.fr _)).set rfl⟩
                rw [HSN.out]
                exact heap_set HL6.out (by first | rfl | (rw [hif]; rfl))
              case measure => simp [intOf]; omega
            · obtain rfl : k = L.length := by omega
              rw [List.take_length] at HLK
              have hmin : minTo X pr a0 L = minP X L pr := by
                unfold minP
                rw [HA0.out, show L.getD 0 ⟨0, []⟩ = L[0] from by simp [List.getD, hpos]]
              rw [hmin] at HLK
              have hsb := HSB.out wr hEz
              have hask : Asks ChV 67 #[] #[.pointer (some ⟨bb, 0, none⟩), .pointer (some ⟨PB, 0, none⟩), .pointer (some ⟨LB, 0, none⟩)] wr L (fun c => c.needles ≠ 0 ∧ allW X c pr = minP X L pr) := ⟨Try.call67, fun w' v c hw' hc hv => by
                have h1 := (HEW2.out.trans hEz).trans hw'
                have := worthFn03 X HX.out p q cp d bb PB LB pr (minP X L pr) hprb v c w' hv (HOKL.out c hc) (HR.out.ext h1) (HG.out.ext h1) ((Below.block (hEz.trans hw') bb (by have := (Array.getElem?_eq_some_iff.1 HBW.out).1; omega)).trans HBW.out) (hw'.cell hsb.2) (hw'.cell ((cell_of_heap HLK.out 0).trans rfl))
                simpa using this⟩
              have hcf := ContainsFuncCh (some ⟨b0', o0', none⟩) L lc 67 #[.pointer (some ⟨bb, 0, none⟩), .pointer (some ⟨PB, 0, none⟩), .pointer (some ⟨LB, 0, none⟩)] wr _ (by omega) (HCH2.out.ext hEz) hask
              have hpc2 := fun z (hz : Ext wr z) => (HSB.out z (hEz.trans hz)).2
              have HPC := Lib.hid hpc2
              have HEZ := Lib.hid hEz
              clear hsb hask hpc2 hmin hEz
              by_cases hpay : ∃ c ∈ L, c.needles ≠ 0 ∧ allW X c pr = minP X L pr
              · rw [bP_t hpay] at hcf
                have HCF := Lib.hid hcf
                have HPAY := Lib.hid ((paysB_iff X L pr).2 hpay)
                clear hcf hpay
                go_wp2_with (go_at_call 66; refine HCF.out.mono ?_; rintro e w7 ⟨rfl, hE7⟩; have hp7 := HPC.out w7 hE7)
                go_ret2
                refine RetE.fin ((HEW2.out.trans HEZ.out).trans hE7) ?_
                rw [HWV.out, worthTo_skip X L 1000 hn HNO.out, worthTo, if_pos HPAY.out]
                rfl
              · have hpf : paysB X L pr = false := by
                  cases h : paysB X L pr with
                  | false => rfl
                  | true => exact absurd ((paysB_iff X L pr).1 h) hpay
                rw [bP_f hpay] at hcf
                have HCF := Lib.hid hcf
                have HPAY := Lib.hid hpf
                clear hcf hpay hpf
                go_wp2_with (go_at_call 66; refine HCF.out.mono ?_; rintro e w7 ⟨rfl, hE7⟩; have hp7 := HPC.out w7 hE7)
                go_roundw
                case rel =>
                  have hE57 := (HER.out.trans HEZ.out).trans hE7
                  refine ⟨pr, w7.heap.size, by omega, rfl, heap_new _ _, hE57.size, fun m h1 h2 => ?_, Ext.alloc hE57 _⟩
                  by_cases e : m = pr
                  · rw [e]; exact HPAY.out
                  · exact HNO.out m (by omega) h2
                case measure =>
                  rw [ptrInt_eq (n := (pr : Int) - 1) ((cell_of_heap (heap_new _ _) 0).trans rfl), ptrInt_eq (n := (pr : Int)) ((cell_of_heap HPB.out 0).trans rfl)]
                  omega
        · have hLBx : w6.heap[wr.heap.size]? = some (.cells #[.int .i64 0] 3 (0, 0)) := (Below.block hS6.out _ (by show wr.heap.size < (wr.alloc _).heap.size; rw [size_alloc]; exact Nat.lt_succ_self _)).trans (heap_new _ _)
          obtain ⟨LB, hLB⟩ : ∃ LB, LB = wr.heap.size := ⟨_, rfl⟩
          have hEw6 : Ext wr w6 := (by repeat (first | with_reducible exact HX0.out | with_reducible refine Ext.alloc ?_ _ | with_reducible refine Ext.drew ?_ | with_reducible refine Ext.trans ?_ (StpT.out (by assumption))))
          have hLBw : wr.heap.size ≤ LB := by omega
          rw [← hLB] at hLBx ⊢
          generalize hW9 : World.setCell _ _ _ = W9
          have hl9 : W9.heap[LB]? = some (.cells #[.int .i64 a0] 3 (0, 0)) := by
            rw [← hW9]
            repeat (with_reducible (first | refine heap_drew ?_ | apply heap_set | exact hLBx))
            all_goals rfl
          have hE9 : Ext wr W9 := by
            rw [← hW9]
            repeat (with_reducible (first | refine Ext.drew ?_ | refine Ext.set ?_ hLBw | exact hEw6))
          have HL9 := Lib.hid hl9
          have HE9 := Lib.hid hE9
          clear hW9 hl9 hE9 hLBx hEw6 hr1 hr2 hLB hS6
          have ha0b : 0 ≤ a0 ∧ a0 ≤ 30000 := by rw [HA0.out]; exact allW_bd HX.out (HOKL.out _ (List.getElem_mem hpos)) hprb
          have HZ : Hid (∀ z, Fr (fun i => i = LB) W9 z → Ext wr z) := Lib.hid fun z hz => Fr.ext HE9.out hz (fun i hi => by have e : i = LB := hi; omega)
          have HCH2 : Hid (ChsAt wr (some ⟨b0', o0', none⟩) L) := Lib.hid (HCHL.out.ext HER.out)
          have HEW2 : Hid (Ext w wr) := Lib.hid (HE5.out.trans HER.out)
          have HSB : Hid (∀ z, Ext wr z → (z.cell? ⟨bb, 0, none⟩ = some (.int .i64 X.weeks) ∧ z.cell? ⟨bb, 1, none⟩ = some (.int .i64 X.price) ∧ z.cell? ⟨bb, 2, none⟩ = some (.int .i64 X.age) ∧ z.cell? ⟨bb, 3, none⟩ = some (.int .i64 X.step) ∧ z.cell? ⟨bb, 4, none⟩ = some (.slice p X.rough.length cp) ∧ z.cell? ⟨bb, 5, none⟩ = some (.slice q X.recs.length d)) ∧ z.cell? ⟨PB, 0, none⟩ = some (.int .i64 pr)) := Lib.hid fun z hz => ⟨(HSS.out z hz).1, (HSS.out z hz).2.2.2⟩
          clear HSS hpc
          go_wp2
          go_loopw [38] (fun i wr => ∃ k : Nat, k ≤ L.length ∧ i = .int .i64 k ∧ wr.heap[LB]? = some (.cells #[.int .i64 (minTo X pr a0 (L.take k))] 3 (0, 0)) ∧ Fr (fun i => i = LB) W9 wr) (fun i _ => L.length - (intOf i).toNat)
          case atStart => exact ⟨0, by omega, rfl, HL9.out, Fr.refl _ _⟩
          case round =>
            obtain ⟨k, hk, rfl, hl, hF⟩ := hrel
            have HLK := Lib.hid hl
            have HF := Lib.hid hF
            have hEz := HZ.out wr hF
            clear hl hF
            by_cases hlk : k < L.length
            · obtain ⟨b1x, o1x, q1, c1, he1, k0, k1, km⟩ := (HCH2.out.ext hEz) k hlk
              cases he1
              have hmt := minTo_bd HX.out hprb ha0b (L.take k) (fun c hc => HOKL.out c (List.mem_of_mem_take hc))
              have hsn := minTo_snoc X pr a0 (L.take k) L[k]
              rw [← List.take_succ_eq_append_getElem hlk] at hsn
              have hokc := HOKL.out _ (List.getElem_mem hlk)
              have hab := allW_bd HX.out hokc hprb
              have hall := fun z (hz : Ext wr z) => all03 (.agg #[.int .i64 X.weeks, .int .i64 X.price, .int .i64 X.age, .int .i64 X.step, .slice p X.rough.length cp, .slice q X.recs.length d]) (.agg #[.int .u64 L[k].needles, .slice q1 L[k].records.length c1]) X L[k] pr z ⟨_, _, _, _, rfl, HG.out.ext ((HEW2.out.trans hEz).trans hz), HR.out.ext ((HEW2.out.trans hEz).trans hz)⟩ HX.out ⟨_, _, rfl, km.ext hz⟩ hokc hprb
              obtain ⟨mk, hmk⟩ : ∃ mk, mk = minTo X pr a0 (L.take k) := ⟨_, rfl⟩
              obtain ⟨aw, haw⟩ : ∃ aw, aw = allW X L[k] pr := ⟨_, rfl⟩
              rw [← hmk] at hmt hsn HLK
              rw [← haw] at hsn hab hall
              obtain ⟨nx, hnx⟩ : ∃ nx, nx = L[k].needles := ⟨_, rfl⟩
              obtain ⟨rx, hrx⟩ : ∃ rx, rx = L[k].records.length := ⟨_, rfl⟩
              rw [← hnx] at k0 hall
              rw [← hrx] at k1 hall
              have HALL := Lib.hid hall
              have HSN := Lib.hid hsn
              have hif : (if aw < mk then aw else mk) = min mk aw := by rw [Int.min_def]; split <;> split <;> omega
              have HSBW := Lib.hid (fun z (hz : Ext wr z) => HSB.out z (hEz.trans hz))
              clear hall hsn hmk haw hnx hrx km hEz hokc
              go_upto_region 12 with (fail)
              obtain ⟨H, hH⟩ : ∃ H, H = wr.heap.size := ⟨_, rfl⟩
              have hn := heap_new wr (.cells #[.int .u64 nx, .slice q1 rx c1] 105)
              obtain ⟨Wb, hWb⟩ : ∃ Wb, Wb = wr.alloc (.cells #[.int .u64 nx, .slice q1 rx c1] 105) := ⟨_, rfl⟩
              have hEb : Ext wr Wb := by rw [hWb]; exact Ext.alloc (Ext.refl _) _
              rw [← hWb, ← hH] at hn
              rw [← hWb, ← hH]
              have hS : ∀ z, Ext Wb z → z.cell? ⟨LB, 0, none⟩ = some (.int .i64 mk) ∧ (z.cell? ⟨bb, 0, none⟩ = some (.int .i64 X.weeks) ∧ z.cell? ⟨bb, 1, none⟩ = some (.int .i64 X.price) ∧ z.cell? ⟨bb, 2, none⟩ = some (.int .i64 X.age) ∧ z.cell? ⟨bb, 3, none⟩ = some (.int .i64 X.step) ∧ z.cell? ⟨bb, 4, none⟩ = some (.slice p X.rough.length cp) ∧ z.cell? ⟨bb, 5, none⟩ = some (.slice q X.recs.length d)) ∧ z.cell? ⟨H, 0, none⟩ = some (.int .u64 nx) ∧ z.cell? ⟨H, 1, none⟩ = some (.slice q1 rx c1) ∧ z.cell? ⟨PB, 0, none⟩ = some (.int .i64 pr) := fun z hz =>
                ⟨(hEb.trans hz).cell ((cell_of_heap HLK.out 0).trans rfl), (HSBW.out z (hEb.trans hz)).1, hz.cell ((cell_of_heap hn 0).trans rfl), hz.cell ((cell_of_heap hn 1).trans rfl), (HSBW.out z (hEb.trans hz)).2⟩
              have HS2 := Lib.hid hS
              have HS0 := Lib.hid (hS _ (Ext.refl Wb).drew)
              have HEB := Lib.hid hEb
              have HLb := Lib.hid ((Below.block hEb LB (Array.getElem?_eq_some_iff.1 HLK.out).1).trans HLK.out)
              clear hWb hn hEb hS k0 k1 hH
              refine wp_region_heldT (fun z => z.cell? ⟨LB, 0, none⟩ = some (.int .i64 mk) ∧ (z.cell? ⟨bb, 0, none⟩ = some (.int .i64 X.weeks) ∧ z.cell? ⟨bb, 1, none⟩ = some (.int .i64 X.price) ∧ z.cell? ⟨bb, 2, none⟩ = some (.int .i64 X.age) ∧ z.cell? ⟨bb, 3, none⟩ = some (.int .i64 X.step) ∧ z.cell? ⟨bb, 4, none⟩ = some (.slice p X.rough.length cp) ∧ z.cell? ⟨bb, 5, none⟩ = some (.slice q X.recs.length d)) ∧ z.cell? ⟨H, 0, none⟩ = some (.int .u64 nx) ∧ z.cell? ⟨H, 1, none⟩ = some (.slice q1 rx c1) ∧ z.cell? ⟨PB, 0, none⟩ = some (.int .i64 pr)) 6
                [(true, 0), (true, 1), (true, 2), (true, 3), (false, 4), (true, 5)] (by kernel_rfl) (by kernel_rfl) HS0.out ?_
              simp only [List.map_cons, List.map_nil, List.getElem?_cons_zero, List.getElem?_cons_succ]
              repeat (refine wpHL_take (v := ?_) (by rfl) ?_ (fun _ _ _ h => h) ?_; rotate_left 1; (intro z hz; (try dsimp only at hz); go_simp; (try with_reducible rfl)); simp only [Act.put, List.setIfInBounds_toArray, List.set_cons_zero, List.set_cons_succ])
              refine wpHL_step (fun K hK => ?_)
              go_simp
              refine (HALL.out _ (HEB.out.trans (by repeat (first | exact Ext.refl _ | refine Ext.drew ?_)))).mono ?_
              rintro e w6 ⟨rfl, hE6⟩
              have hE6b : Ext Wb w6 := (Ext.refl Wb).drew.trans hE6
              refine hK.out _ _ (HS2.out w6 hE6b) ?_
              clear hK K hE6
              try simp only [Act.put, List.setIfInBounds_toArray, List.set_cons_zero, List.set_cons_succ]
              repeat (refine wpHL_take (v := ?_) (by rfl) ?_ (fun _ _ _ h => h) ?_; rotate_left 1; (intro z hz; (try dsimp only at hz); go_simp; (try with_reducible rfl)); simp only [Act.put, List.setIfInBounds_toArray, List.set_cons_zero, List.set_cons_succ])
              refine wpHL_nil ?_
              simp only [List.drop_succ_cons, List.drop_zero]
              have hl6 := (Below.block hE6b LB (Array.getElem?_eq_some_iff.1 HLb.out).1).trans HLb.out
              have z0 : w6.cell? ⟨LB, 0, none⟩ = some (.int .i64 mk) := (cell_of_heap hl6 0).trans rfl
              have z1 := cell_frozen hl6 0
              have HL6 := Lib.hid hl6
              have HE6 := Lib.hid hE6b
              clear hl6 hE6b
              go_wp2
              go_roundw
              case rel =>
                refine ⟨k + 1, by omega, by go_num, ?_, ((HF.out.trans (HEB.out.fr _)).trans (HE6.out.fr _)).set rfl⟩
                rw [HSN.out]
                exact heap_set HL6.out (by first | rfl | (rw [hif]; rfl))
              case measure => simp [intOf]; omega
            · obtain rfl : k = L.length := by omega
              rw [List.take_length] at HLK
              have hmin : minTo X pr a0 L = minP X L pr := by
                unfold minP
                rw [HA0.out, show L.getD 0 ⟨0, []⟩ = L[0] from by simp [List.getD, hpos]]
              rw [hmin] at HLK
              have hsb := HSB.out wr hEz
              have hask : Asks ChV 67 #[] #[.pointer (some ⟨bb, 0, none⟩), .pointer (some ⟨PB, 0, none⟩), .pointer (some ⟨LB, 0, none⟩)] wr L (fun c => c.needles ≠ 0 ∧ allW X c pr = minP X L pr) := ⟨Try.call67, fun w' v c hw' hc hv => by
                have h1 := (HEW2.out.trans hEz).trans hw'
                have := worthFn03 X HX.out p q cp d bb PB LB pr (minP X L pr) hprb v c w' hv (HOKL.out c hc) (HR.out.ext h1) (HG.out.ext h1) ((Below.block (hEz.trans hw') bb (by have := (Array.getElem?_eq_some_iff.1 HBW.out).1; omega)).trans HBW.out) (hw'.cell hsb.2) (hw'.cell ((cell_of_heap HLK.out 0).trans rfl))
                simpa using this⟩
              have hcf := ContainsFuncCh (some ⟨b0', o0', none⟩) L lc 67 #[.pointer (some ⟨bb, 0, none⟩), .pointer (some ⟨PB, 0, none⟩), .pointer (some ⟨LB, 0, none⟩)] wr _ (by omega) (HCH2.out.ext hEz) hask
              have hpc2 := fun z (hz : Ext wr z) => (HSB.out z (hEz.trans hz)).2
              have HPC := Lib.hid hpc2
              have HEZ := Lib.hid hEz
              clear hsb hask hpc2 hmin hEz
              by_cases hpay : ∃ c ∈ L, c.needles ≠ 0 ∧ allW X c pr = minP X L pr
              · rw [bP_t hpay] at hcf
                have HCF := Lib.hid hcf
                have HPAY := Lib.hid ((paysB_iff X L pr).2 hpay)
                clear hcf hpay
                go_wp2_with (go_at_call 66; refine HCF.out.mono ?_; rintro e w7 ⟨rfl, hE7⟩; have hp7 := HPC.out w7 hE7)
                go_ret2
                refine RetE.fin ((HEW2.out.trans HEZ.out).trans hE7) ?_
                rw [HWV.out, worthTo_skip X L 1000 hn HNO.out, worthTo, if_pos HPAY.out]
                rfl
              · have hpf : paysB X L pr = false := by
                  cases h : paysB X L pr with
                  | false => rfl
                  | true => exact absurd ((paysB_iff X L pr).1 h) hpay
                rw [bP_f hpay] at hcf
                have HCF := Lib.hid hcf
                have HPAY := Lib.hid hpf
                clear hcf hpay hpf
                go_wp2_with (go_at_call 66; refine HCF.out.mono ?_; rintro e w7 ⟨rfl, hE7⟩; have hp7 := HPC.out w7 hE7)
                go_roundw
                case rel =>
                  have hE57 := (HER.out.trans HEZ.out).trans hE7
                  refine ⟨pr, w7.heap.size, by omega, rfl, heap_new _ _, hE57.size, fun m h1 h2 => ?_, Ext.alloc hE57 _⟩
                  by_cases e : m = pr
                  · rw [e]; exact HPAY.out
                  · exact HNO.out m (by omega) h2
                case measure =>
                  rw [ptrInt_eq (n := (pr : Int) - 1) ((cell_of_heap (heap_new _ _) 0).trans rfl), ptrInt_eq (n := (pr : Int)) ((cell_of_heap HPB.out 0).trans rfl)]
                  omega
end Go.Proofs.Ytkcilgjkdiopnaa
