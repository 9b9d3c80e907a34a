/- Lists of numbers copied within a drawn region; the cells of weeks whose lists lie apart from them. The walk of CopyPlan. Rows that a call makes in one step, and where they lie: numbers, records. The walk of Copy, the box. -/
import Derived.Test.YtkcilgjkdiopnaaVG
import Derived.Test.YtkcilgjkdiopnaaVF
import Derived.Deep.DeepAppendWide
import Derived.Deep.RegionHeld3
namespace Go.Proofs.Ytkcilgjkdiopnaa
open Go.RowKit

theorem run_append_owned_nil {P : Program} {w : World} (base : Nat) (t ty e : TypeId) (i : TypeInfo) (size : Nat) (ht : P.underlying t = some (.slice e)) (hi : P.info? e = some i)
    (v : Value) (n c : Nat) (xs : List Value) (hown : w.ownsRow base e size v n xs) :
    (Builtin.append_ #[t, t] ty #[v, .slice none 0 c]).run P w = .ok v w := by
  rcases hown.2 with ⟨rfl, rfl⟩ | ⟨g, cap, cur, rfl, _, _, hnc, _⟩
  · simp [Builtin.append_, run_underlying ht, sizeOf, typeInfo, hi, Builtin.lenOf, Builtin.firstCells]
  · simp [Builtin.append_, run_underlying ht, sizeOf, typeInfo, hi, Builtin.lenOf, Builtin.firstCells, hnc, storeCells]

/-- a list of numbers appended to a new empty row -/
theorem run_row_of {w : World} {ty : TypeId} {H : Nat} (hown : w.ownsRow H 3 1 (.slice (some ⟨H, 0, none⟩) 0 0) 0 []) (hH : H < w.heap.size) (p : Option Addr) (l : List Int) (c : Nat) (hl : IntsAt w p l) (hle : l.length ≤ 1000) :
    ∃ g cn w', (Builtin.append_ #[22, 22] ty #[.slice (some ⟨H, 0, none⟩) 0 0, .slice p l.length c]).run Try.prog w = .ok (.slice (some ⟨g, 0, none⟩) l.length cn) w' ∧
      w'.ownsRow H 3 1 (.slice (some ⟨g, 0, none⟩) l.length cn) l.length (intVs l) ∧ w.grownBy w' (some H) := by
  obtain ⟨i0, hi, hz0, hz1, hz2⟩ := info_parts info_a
  cases p with
  | none =>
    have hn : l = [] := by
      cases l with
      | nil => rfl
      | cons y r => obtain ⟨b, o', he, -⟩ := hl.at 0 (by simp); cases he
    subst hn
    exact ⟨H, 0, w, run_append_owned_nil H 22 ty 3 i0 1 Try.underlying22 hi _ 0 c [] hown, hown, World.grownBy.refl _ _⟩
  | some ad =>
    obtain ⟨v', w', hr, h2, h3, h4, -⟩ := run_append_own_at (P := Try.prog) w H 22 ty 3 i0 (.int .i64 0) 1 8 Try.underlying22 hi hz0 hz1 hz2 rfl (by decide) _ 0 [] hown ad l.length c (intVs l) (by simp [intVs]) (by
      intro j u hj
      have hjl : j < l.length := by have := (List.getElem?_eq_some_iff.1 hj).1; rwa [intVs_len] at this
      obtain ⟨b, o', he, hc⟩ := hl.at j hjl
      cases he
      have hu : u = .int .i64 l[j] := by
        have := (List.getElem?_eq_some_iff.1 hj).2
        simp [intVs] at this
        exact this.symm
      rw [hu, ← hc]
      by_cases h0 : j = 0
      · subst h0; rfl
      · simp [Addr.add, h0]) (by
      intro u hu
      obtain ⟨n, -, rfl⟩ := List.mem_map.1 hu
      rfl) (by simp only [maxLen]; omega) (by omega) (by omega)
    rw [Nat.zero_add, List.nil_append] at h2
    rcases h2.2 with ⟨rfl, -⟩ | ⟨g, cap, cur, rfl, -⟩
    · exact absurd (h4.1 rfl).1 (by simp)
    · exact ⟨g, cap, w', hr, h2, h3⟩

theorem step_row_of {w : World} {ops : Array Oper} {o : Oper} {a : Act} {K : Act → World → Prop} {Q : Exit → Act → World → Prop} {E : Prop} (hgd : o.guard = none) (s x : Operand)
    (ho : o.op = .call { callee := .builtin .append, args := #[s, x], argTypes := #[22, 22] })
    (H : Nat) (hs : a.eval s = .slice (some ⟨H, 0, none⟩) 0 0) (hown : w.ownsRow H 3 1 (.slice (some ⟨H, 0, none⟩) 0 0) 0 []) (hH : H < w.heap.size)
    (p : Option Addr) (l : List Int) (c : Nat) (hx : a.eval x = .slice p l.length c) (hl : IntsAt w p l) (hle : l.length ≤ 1000)
    (h : ∀ g cn w', w'.ownsRow H 3 1 (.slice (some ⟨g, 0, none⟩) l.length cn) l.length (intVs l) → w.grownBy w' (some H) → K (a.put o.dst (.slice (some ⟨g, 0, none⟩) l.length cn)) w') :
    if Region.wanted o (yielded ops a.tmps) = true then Oper.wp Try.prog o a w K Q else E := by
  have hw : Region.wanted o (yielded ops a.tmps) = true := by simp [Region.wanted, hgd]
  rw [if_pos hw]
  obtain ⟨g, cn, w', hr, h2, h3⟩ := run_row_of (ty := o.type) hown hH p l c hl hle
  unfold Oper.wp execOp
  simp only [ho, resolve, invoke, builtin, Sem.run_bind, Sem.run_pure, Result.andThen_ok, List.map_toArray, List.map_cons, List.map_nil, hs, hx, hr]
  exact h g cn w' h2 h3

theorem info_wk : (Try.prog.info? 61).map (fun i => (i.zero, i.size, i.bytes)) = some (some (.agg #[.int .i64 0, .slice none 0 0]), 2, 32) := by kernel_rfl
theorem info_rec : (Try.prog.info? 54).map (fun i => (i.zero, i.size, i.bytes)) = some (some (.agg #[.int .i64 0, .int .i64 0, .int .i64 0, .slice none 0 0]), 4, 48) := by kernel_rfl

/-- the cells of weeks, whose lists lie in memory from M on, apart from block r -/
def WksR (M : Nat) (W : World) (r : Option Nat) (xs : List Value) (l : List Wk) : Prop :=
  ∀ i (h : i < l.length), ∃ q c, xs[i * 2]? = some (.int .i64 l[i].needle) ∧ xs[i * 2 + 1]? = some (.slice q l[i].recs.length c) ∧ IntsAt W q l[i].recs ∧ (∀ a, q = some a → M ≤ a.block) ∧ ∀ a, q = some a → l[i].recs ≠ [] → r ≠ some a.block
theorem ints_lt {W : World} {q : Option Addr} {l : List Int} (h : IntsAt W q l) (a : Addr) (ha : q = some a) (hl : l ≠ []) : a.block < W.heap.size := by
  obtain ⟨b, o, he, hc⟩ := h.at 0 (List.length_pos_iff.2 hl)
  rw [ha] at he
  cases he
  exact lt_of_cell hc
theorem IntsAt.fr {W W' : World} {q : Option Addr} {l : List Int} {E : Nat → Prop} (h : IntsAt W q l) (hF : Fr E W W') (hE : ∀ a, q = some a → l ≠ [] → ¬E a.block) : IntsAt W' q l := by
  intro i hi
  obtain ⟨b, o, v, hp, hc, hv⟩ := h i hi
  exact ⟨b, o, v, hp, hF.cell hc (hE _ hp (by intro h0; rw [h0] at hi; simp at hi)), hv⟩
theorem WksR.fr {M : Nat} {W W' : World} {r : Option Nat} {xs : List Value} {l : List Wk} {E : Nat → Prop} (h : WksR M W r xs l) (hF : Fr E W W') (hE : ∀ k, M ≤ k → E k → r = some k) : WksR M W' r xs l := by
  intro i hi
  obtain ⟨q, c, h1, h2, h3, h4, h5⟩ := h i hi
  exact ⟨q, c, h1, h2, h3.fr hF (fun a ha hne he => h5 a ha hne (hE _ (h4 a ha) he)), h4, h5⟩
theorem WksR.step {M : Nat} {W W' : World} {r : Option Nat} {xs : List Value} {l : List Wk} {g : Nat} {x : Wk} {mp : Option Addr} {mc : Nat} (h : WksR M W r xs l) (hxs : xs.length = l.length * 2) (hg : W.grownBy W' r) (hat : r = some g ∨ g = W.heap.size)
    (hma : IntsAt W mp x.recs) (hmb : ∀ a, mp = some a → M ≤ a.block) (hmr : ∀ a, mp = some a → x.recs ≠ [] → r ≠ some a.block) : WksR M W' (some g) (xs ++ [.int .i64 x.needle, .slice mp x.recs.length mc]) (l ++ [x]) := by
  have keep : ∀ (q : Option Addr) (rs : List Int), IntsAt W q rs → (∀ a, q = some a → rs ≠ [] → r ≠ some a.block) → IntsAt W' q rs ∧ ∀ a, q = some a → rs ≠ [] → some g ≠ some a.block := by
    intro q rs hq hr
    refine ⟨fun i hi => ?_, fun a ha hne e => ?_⟩
    · obtain ⟨b, o, v, hp, hc, hv⟩ := hq i hi
      exact ⟨b, o, v, hp, hg.cell hc (fun e => hr _ hp (by intro h0; rw [h0] at hi; simp at hi) e.symm), hv⟩
    · rcases hat with h1 | h1
      · exact hr a ha hne (h1.trans e)
      · have := ints_lt hq a ha hne
        have e2 : g = a.block := Option.some.inj e
        omega
  intro i hi
  rw [List.length_append, List.length_singleton] at hi
  by_cases e : i < l.length
  · obtain ⟨q, c, h1, h2, h3, h4, h5⟩ := h i e
    obtain ⟨k1, k2⟩ := keep q _ h3 h5
    rw [List.getElem_append_left e]
    exact ⟨q, c, by rw [List.getElem?_append_left (by omega)]; exact h1, by rw [List.getElem?_append_left (by omega)]; exact h2, k1, h4, k2⟩
  · obtain rfl : i = l.length := by omega
    obtain ⟨k1, k2⟩ := keep mp _ hma hmr
    have hx : (l ++ [x])[l.length]'(by simp) = x := by simp
    rw [hx]
    refine ⟨mp, mc, ?_, ?_, k1, hmb, k2⟩
    · rw [List.getElem?_append_right (by omega), hxs]; simp
    · rw [List.getElem?_append_right (by omega), hxs]; simp

/-- a plan in memory of its own -/
def PlanOwn (M : Nat) (W : World) (v : Value) (l : List Wk) : Prop := ∃ xs, W.ownsRow M 61 2 v l.length xs ∧ WksR M W v.ownBlock xs l
theorem PlanOwn.nil (M : Nat) (W : World) : PlanOwn M W (.slice none 0 0) [] := ⟨[], World.ownsRow_nil _ _ _ _, fun i h => absurd h (by simp)⟩
theorem PlanOwn.ext {M : Nat} {W W' : World} {v : Value} {l : List Wk} (h : PlanOwn M W v l) (hE : Ext W W') : PlanOwn M W' v l := by
  obtain ⟨xs, h1, h2⟩ := h
  refine ⟨xs, ownsRow_ext h1 hE, fun i hi => ?_⟩
  obtain ⟨q, c, k1, k2, k3, k4, k5⟩ := h2 i hi
  exact ⟨q, c, k1, k2, k3.ext hE, k4, k5⟩
theorem ownsRow_cell {w : World} {B : Nat} {e : TypeId} {size : Nat} {v : Value} {n : Nat} {xs : List Value} (h : w.ownsRow B e size v n xs) (i : Nat) (hi : i < n * size) :
    ∃ b c, v = .slice (some ⟨b, 0, none⟩) n c ∧ w.cell? ⟨b, i, none⟩ = xs[i]? := by
  rcases h.2 with ⟨-, h0⟩ | ⟨g, cap, cur, rfl, -, hg, hc, -, hs, hx⟩
  · subst h0; simp at hi
  · refine ⟨g, cap, rfl, ?_⟩
    rw [cell_of_heap hg, ← hx, List.getElem?_take, if_pos hi]
    simp
theorem PlanOwn.wks {M : Nat} {W : World} {v : Value} {l : List Wk} (h : PlanOwn M W v l) : ∃ q c, v = .slice q l.length c ∧ WksAt W q l := by
  obtain ⟨xs, h1, h2⟩ := h
  have key : ∀ q c, v = .slice q l.length c → WksAt W q l := by
    intro q c hv i hi
    obtain ⟨b, c1, he, k0⟩ := ownsRow_cell h1 (i * 2) (by omega)
    obtain ⟨b', c2, he', k1⟩ := ownsRow_cell h1 (i * 2 + 1) (by omega)
    obtain ⟨qi, ci, m0, m1, m2, -, -⟩ := h2 i hi
    rw [hv] at he he'
    cases he
    cases he'
    exact ⟨b, 0, qi, ci, rfl, by rw [Nat.zero_add, k0, m0], by rw [Nat.zero_add, k1, m1], m2⟩
  rcases h1.2 with ⟨hv, h0⟩ | ⟨g, cap, cur, hv, -⟩
  · exact ⟨none, 0, by rw [hv, h0], key none 0 (by rw [hv, h0])⟩
  · exact ⟨_, cap, hv, key _ cap hv⟩
end Go.Proofs.Ytkcilgjkdiopnaa
namespace Go.Proofs.Ytkcilgjkdiopnaa
open Go.RowKit

theorem one_wk (n : Int) (q : Option Addr) (a b : Nat) : ∀ u ∈ [Value.int .i64 n, Value.slice q a b], u.oneCell' = true := by
  intro u hu
  simp at hu
  rcases hu with rfl | rfl <;> rfl

set_option maxRecDepth 20000 in
set_option maxHeartbeats 3200000 in
theorem CopyPlan03 (pp : Option Addr) (l : List Wk) (pc : Nat) (w : World) (hl : l.length ≤ 1000) (hr : ∀ x ∈ l, x.recs.length ≤ 1000) (hp : WksAt w pp l) :
    Calls Try.prog 18 #[.slice pp l.length pc] w (fun e w' => ∃ v, e = .returned v ∧ Ext w w' ∧ PlanOwn w.heap.size w' v l) := by
  obtain ⟨i1, hi1, hz1, hy1, hb1⟩ := info_parts info_wk
  go_enter Try.func18, Try.ntmps18
  go_wp2
  go_loopw [3, 4] (fun v i wr => ∃ k : Nat, k ≤ l.length ∧ i = .int .i64 k ∧ Ext w wr ∧ PlanOwn w.heap.size wr v (l.take k)) (fun _ i _ => l.length - (intOf i).toNat)
  case atStart => exact ⟨0, by omega, rfl, Ext.refl _, PlanOwn.nil _ _⟩
  case round =>
    obtain ⟨k, hk, rfl, hE, hR⟩ := hrel
    by_cases hlt : k < l.length
    · obtain ⟨b, o, q', c', rfl, hc1, hc2, hi⟩ := hp k hlt
      have hrk := hr _ (List.getElem_mem hlt)
      obtain ⟨xs, hown, hwks⟩ := hR
      have hlk : (l.take k).length = k := by rw [List.length_take]; omega
      rw [hlk] at hown
      have HOWN := Lib.hid hown
      have HWKS := Lib.hid hwks
      have HE := Lib.hid hE
      have HI := Lib.hid hi
      have HS := Lib.hid (fun z (hz : Ext w z) => (⟨hz.cell hc1, hz.cell hc2⟩ : z.cell? ⟨b, o + k * 2, none⟩ = some (.int .i64 l[k].needle) ∧ z.cell? ⟨b, o + k * 2 + 1, none⟩ = some (.slice q' l[k].recs.length c')))
      have HLK := Lib.hid hlk
      clear hown hwks hi hc1 hc2 hlk hE
      go_upto_region 5 with (fail)
      refine wp_region_heldT (fun z => z.cell? ⟨b, o + k * 2, none⟩ = some (.int .i64 l[k].needle) ∧ z.cell? ⟨b, o + k * 2 + 1, none⟩ = some (.slice q' l[k].recs.length c')) 16
        [(true, 0), (true, 1), (true, 2), (true, 3), (true, 4), (true, 5), (true, 7), (true, 8), (true, 9), (true, 10), (true, 11), (false, 6), (false, 12), (true, 13), (false, 14), (false, 15)] (by kernel_rfl) (by kernel_rfl) (HS.out _ HE.out.drew) ?_
      simp only [List.map_cons, List.map_nil, List.getElem?_cons_zero, List.getElem?_cons_succ]
      repeat (refine wpHL_take (v := ?_) (by rfl) ?_ (fun _ _ _ h => h) ?_; rotate_left 1; (intro z hz; (try dsimp only at hz); go_simp; (try with_reducible rfl)); simp only [Act.put, List.setIfInBounds_toArray, List.set_cons_zero, List.set_cons_succ])
      refine wpHL_step (fun K hK => ?_)
      go_simp
      refine hK.out _ _ (HS.out _ (HE.out.drew.alloc _)) ?_
      clear hK K
      try simp only [Act.put, List.setIfInBounds_toArray, List.set_cons_zero, List.set_cons_succ]
      refine wpHL_step (fun K hK => ?_)
      refine step_row_of rfl (.tmp 17) (.tmp 22) rfl wr.drew.heap.size rfl (World.ownsRow_made wr.drew #[] 0 (Nat.le_refl _) (by decide) rfl) (by show wr.heap.size < (wr.alloc _).heap.size; rw [size_alloc]; exact Nat.lt_succ_self _) q' l[k].recs c' rfl (HI.out.ext (HE.out.drew.alloc _)) hrk ?_
      intro g1 cn1 w2 hown2 hgr2
      have hE2 : Ext wr w2 := Below.grown ((Ext.refl wr).drew.alloc _) hgr2 (by rw [size_alloc]; show _ ≤ wr.heap.size + 1; omega) (fun j hj => by cases hj; exact Nat.le_refl _)
      refine hK.out _ _ (HS.out _ (HE.out.trans hE2)) ?_
      clear hK K
      have HE2 := Lib.hid hE2
      have HO2 := Lib.hid hown2
      clear hown2 hgr2 hE2
      try simp only [Act.put, List.setIfInBounds_toArray, List.set_cons_zero, List.set_cons_succ]
      repeat (refine wpHL_take (v := ?_) (by rfl) ?_ (fun _ _ _ h => h) ?_; rotate_left 1; (intro z hz; (try dsimp only at hz); go_simp; (try with_reducible rfl)); simp only [Act.put, List.setIfInBounds_toArray, List.set_cons_zero, List.set_cons_succ])
      refine wpHL_step (fun K hK => ?_)
      go_simp
      refine hK.out _ _ (HS.out _ ((HE.out.trans HE2.out).alloc _)) ?_
      clear hK K
      try simp only [Act.put, List.setIfInBounds_toArray, List.set_cons_zero, List.set_cons_succ]
      refine wpHL_step (fun K hK => ?_)
      refine step_append_lies _ rfl (.tmp 11) (.tmp 25) 26 rfl w.heap.size 61 i1 _ 2 32 Try.underlying26 hi1 hz1 hy1 hb1 rfl (by decide) _ k xs rfl ((ownsRow_ext HOWN.out HE2.out).alloc _) ⟨w2.heap.size, 0, none⟩ 1 1 [.int .i64 l[k].needle, .slice (some ⟨g1, 0, none⟩) l[k].recs.length cn1] rfl rfl (hnews2 (Ext.refl _) rfl) (one_wk _ _ _ _) (by decide) (by unfold maxLen; omega) (by omega) (by rw [size_alloc]; have := HE.out.size; have := HE2.out.size; omega) (w2.heap.size + 1) (size_alloc _ _) ?_
      intro g4 cap4 w4 hown4 hgr4 hat4 hlt4
      have hws := HE.out.size
      have hws2 := HE2.out.size
      have hvb : ∀ j, Value.ownBlock _ = some j → w.heap.size ≤ j ∧ j < wr.heap.size := fun j hj => HOWN.out.lt j hj
      have hE4 : Ext w w4 := Below.grown ((HE.out.trans HE2.out).alloc _) hgr4 (by rw [size_alloc]; omega) (fun j hj => (hvb j hj).1)
      have hg1 : wr.heap.size ≤ g1 := (HO2.out.lt g1 rfl).1
      have hst : WksR w.heap.size w4 (some g4) _ (l.take k ++ [l[k]]) := WksR.step (W := w2.alloc _) (HWKS.out.fr ((HE2.out.alloc _).fr (fun _ => False)) (fun _ _ h => h.elim)) (by rw [HOWN.out.1, HLK.out]) hgr4 (by rw [size_alloc]; exact hat4) (mp := some ⟨g1, 0, none⟩) (mc := cn1) ((row_ints HO2.out).ext (Ext.alloc (Ext.refl _) _)) (fun a ha => by cases ha; show w.heap.size ≤ g1; omega) (fun a ha _ e => by cases ha; have := (hvb g1 e).2; omega)
      rw [← List.take_succ_eq_append_getElem hlt] at hst
      have hres : PlanOwn w.heap.size w4 (.slice (some ⟨g4, 0, none⟩) (k + 1) cap4) (l.take (k + 1)) := ⟨_, by rw [show (l.take (k + 1)).length = k + 1 from by rw [List.length_take]; omega]; exact hown4, hst⟩
      have HRES := Lib.hid hres
      have HE4 := Lib.hid hE4
      refine hK.out _ _ (HS.out _ hE4) ?_
      clear hK K hres hst hE4 hvb hown4 hgr4 hat4 hlt4 HOWN HWKS HO2 HE2
      try simp only [Act.put, List.setIfInBounds_toArray, List.set_cons_zero, List.set_cons_succ]
      refine wpHL_nil ?_
      simp only [List.drop_succ_cons, List.drop_zero]
      go_wp2
      go_roundw
      case rel => exact ⟨k + 1, by omega, by go_num, HE4.out, HRES.out⟩
      case measure => simp [intOf]; omega
    · obtain rfl : k = l.length := by omega
      rw [List.take_length] at hR
      have HR := Lib.hid hR
      clear hR
      go_wp2
      go_ret
      exact ⟨_, rfl, hE, HR.out⟩
end Go.Proofs.Ytkcilgjkdiopnaa
namespace Go.Proofs.Ytkcilgjkdiopnaa
open Go.RowKit

theorem run_append_owned_zero {P : Program} {w : World} (base : Nat) (t ty e : TypeId) (i : TypeInfo) (size : Nat) (ht : P.underlying t = some (.slice e)) (hi : P.info? e = some i)
    (v : Value) (n c : Nat) (q : Option Addr) (xs : List Value) (hown : w.ownsRow base e size v n xs) :
    (Builtin.append_ #[t, t] ty #[v, .slice q 0 c]).run P w = .ok v w := by
  cases q with
  | none => exact run_append_owned_nil base t ty e i size ht hi v n c xs hown
  | some ad =>
    rcases hown.2 with ⟨rfl, rfl⟩ | ⟨g, cap, cur, rfl, _, _, hnc, _⟩
    · simp [Builtin.append_, run_underlying ht, sizeOf, typeInfo, hi, Builtin.lenOf, Builtin.firstCells, loadCells, loadCellsFrom]
    · simp [Builtin.append_, run_underlying ht, sizeOf, typeInfo, hi, Builtin.lenOf, Builtin.firstCells, hnc, storeCells, loadCells, loadCellsFrom]

/-- something appended to an empty row without room: a new block -/
theorem wp_new_row {P : Program} {w : World} {o : Oper} {a : Act} {K : Act → World → Prop} {Q : Exit → Act → World → Prop} (s x : Operand) (t : TypeId)
    (ho : o.op = .call { callee := .builtin .append, args := #[s, x], argTypes := #[t, t] })
    (e : TypeId) (i : TypeInfo) (z : Value) (size bytes : Nat) (ht : P.underlying t = some (.slice e)) (hi : P.info? e = some i) (hz : i.zero = some z)
    (hsize : i.size = size) (hby : i.bytes = bytes) (hzs : z.cells.size = size) (hb : bytes ≤ 1000)
    (H : Addr) (hs : a.eval s = .slice (some H) 0 0)
    (ad : Addr) (m c : Nat) (news : List Value) (hx : a.eval x = .slice (some ad) m c) (hl : news.length = m * size) (hnews : ∀ j u, news[j]? = some u → w.cell? (ad.add j) = some u)
    (hm : 0 < m) (hle : m ≤ 1000)
    (h : ∀ cap w', Ext w w' → w'.ownsRow w.heap.size e size (.slice (some ⟨w.heap.size, 0, none⟩) m cap) m news → w.heap.size < w'.heap.size → K (a.put o.dst (.slice (some ⟨w.heap.size, 0, none⟩) m cap)) w') :
    Oper.wp P o a w K Q := by
  have hfit : Builtin.nextslicecap (0 + m) 0 * i.bytes ≤ 281474976710656 := by
    refine growslice_fits_wide (by omega) ?_
    rw [hby]
    have : (0 + m + (0 + m) / 4 + 192) * bytes ≤ 1442 * 1000 := Nat.mul_le_mul (by omega) hb
    omega
  have hrun := run_append_grow (P := P) w t o.type e i z ht hi hz H 0 0 [] (by simp) (by simp) ad m c news (by rw [hsize]; exact hl) hnews (by omega) (by omega) hfit
  have hcap := grownCap_ge w (0 + m) 0 e
  have hmax := grownCap_le_maxLen w (0 + m) 0 e (by simp only [maxLen]; omega)
  unfold Oper.wp
  simp only [Nat.zero_add] at hrun hcap hmax
  simp [execOp, ho, resolve, invoke, builtin, hs, hx, hrun, Result.andThen]
  refine h _ _ (Ext.alloc (Ext.drew (Ext.refl w)) _) ?_ (by rw [size_alloc]; exact Nat.lt_succ_self _)
  refine ⟨hl, Or.inr ⟨_, _, _, rfl, Nat.le_refl _, heap_new w.drew _, hcap, hmax, ?_, ?_⟩⟩
  · simp only [Array.size_append, List.size_toArray, size_zeroCells, hzs, hl]
    rw [← Nat.add_mul]
    congr 1
    omega
  · simp [← hl]

/-- a list of numbers appended to a new empty row, and where the new one lies -/
theorem wp_row_of {w : World} {o : Oper} {a : Act} {K : Act → World → Prop} {Q : Exit → Act → World → Prop} (s x : Operand)
    (ho : o.op = .call { callee := .builtin .append, args := #[s, x], argTypes := #[22, 22] })
    (H : Nat) (hs : a.eval s = .slice (some ⟨H, 0, none⟩) 0 0) (hown : w.ownsRow H 3 1 (.slice (some ⟨H, 0, none⟩) 0 0) 0 []) (hH : H < w.heap.size)
    (p : Option Addr) (l : List Int) (c : Nat) (hx : a.eval x = .slice p l.length c) (hl : IntsAt w p l) (hle : l.length ≤ 1000)
    (h : ∀ g cn w', w'.ownsRow g 3 1 (.slice (some ⟨g, 0, none⟩) l.length cn) l.length (intVs l) → Ext w w' → (g = H ∨ g = w.heap.size) → g < w'.heap.size → K (a.put o.dst (.slice (some ⟨g, 0, none⟩) l.length cn)) w') :
    Oper.wp Try.prog o a w K Q := by
  obtain ⟨i0, hi, hz0, hz1, hz2⟩ := info_parts info_a
  cases l with
  | nil =>
    have hrun := run_append_owned_zero (P := Try.prog) (w := w) H 22 o.type 3 i0 1 Try.underlying22 hi _ 0 c p [] hown
    unfold Oper.wp
    simp only [List.length_nil] at hx
    simp [execOp, ho, resolve, invoke, builtin, hs, hx, hrun, Result.andThen]
    exact h H 0 w hown (Ext.refl w) (Or.inl rfl) hH
  | cons y r =>
    obtain ⟨l, hll⟩ : ∃ l, l = y :: r := ⟨_, rfl⟩
    rw [← hll] at h hx hl hle
    have hpos : 0 < l.length := by rw [hll]; simp
    clear hll
    obtain ⟨b0, o0, rfl, -⟩ := hl.at 0 hpos
    refine wp_new_row s x 22 ho 3 i0 (.int .i64 0) 1 8 Try.underlying22 hi hz0 hz1 hz2 rfl (by decide) _ hs ⟨b0, o0, none⟩ l.length c (intVs l) hx (by simp [intVs]) ?_ hpos hle ?_
    · intro j u hj
      have hjl : j < l.length := by have := (List.getElem?_eq_some_iff.1 hj).1; rwa [intVs_len] at this
      obtain ⟨b, o', he, hc⟩ := hl.at j hjl
      cases he
      have hu : u = .int .i64 l[j] := by
        have := (List.getElem?_eq_some_iff.1 hj).2
        simp [intVs] at this
        exact this.symm
      rw [hu, ← hc]
      by_cases h0 : j = 0
      · subst h0; rfl
      · simp [Addr.add, h0]
    · intro cap w' hE ho' hlt
      exact h _ cap w' ho' hE (Or.inr rfl) hlt


theorem step_row_e {ops : Array Oper} {E : Prop} {w : World} {o : Oper} {a : Act} {K : Act → World → Prop} {Q : Exit → Act → World → Prop} (hgd : o.guard = none) (s x : Operand)
    (ho : o.op = .call { callee := .builtin .append, args := #[s, x], argTypes := #[22, 22] })
    (H : Nat) (hs : a.eval s = .slice (some ⟨H, 0, none⟩) 0 0) (p : Option Addr) (l : List Int) (c : Nat) (hx : a.eval x = .slice p l.length c)
    (hown : w.ownsRow H 3 1 (.slice (some ⟨H, 0, none⟩) 0 0) 0 [])
    (hl : IntsAt w p l) (hle : l.length ≤ 1000)
    (h : ∀ g cn w', w'.ownsRow g 3 1 (.slice (some ⟨g, 0, none⟩) l.length cn) l.length (intVs l) → Ext w w' → (g = H ∨ g = w.heap.size) → g < w'.heap.size → K (a.put o.dst (.slice (some ⟨g, 0, none⟩) l.length cn)) w') :
    if Region.wanted o (yielded ops a.tmps) = true then Oper.wp Try.prog o a w K Q else E := by
  have hw : Region.wanted o (yielded ops a.tmps) = true := by simp [Region.wanted, hgd]
  rw [if_pos hw]
  exact wp_row_of s x ho H hs hown (hown.lt H rfl).2 p l c hx hl hle h

/-- the cells of records -/
def RcAt (w : World) (xs : List Value) (l : List Rec) : Prop :=
  ∀ i (h : i < l.length), xs[i * 4]? = some (.int .i64 l[i].worn) ∧ xs[i * 4 + 1]? = some (.int .i64 l[i].limit) ∧ xs[i * 4 + 2]? = some (.int .i64 l[i].price) ∧ ∃ q c, xs[i * 4 + 3]? = some (.slice q l[i].plays.length c) ∧ IntsAt w q l[i].plays
theorem recs_news {w : World} {b o : Nat} {l : List Rec} (h : RecsAt w (some ⟨b, o, none⟩) l) : ∃ xs : List Value, xs.length = l.length * 4 ∧ (∀ j u, xs[j]? = some u → w.cell? ((⟨b, o, none⟩ : Addr).add j) = some u) ∧ RcAt w xs l := by
  have hadd : ∀ n, (⟨b, o, none⟩ : Addr).add n = ⟨b, o + n, none⟩ := by
    intro n
    by_cases h0 : n = 0
    · subst h0; rfl
    · simp [Addr.add, h0]
  obtain ⟨xs, hxs⟩ : ∃ xs, xs = (List.range (l.length * 4)).map (fun j => (w.cell? ⟨b, o + j, none⟩).getD undef) := ⟨_, rfl⟩
  have hlen : xs.length = l.length * 4 := by rw [hxs]; simp
  have key : ∀ j u, j < l.length * 4 → w.cell? ⟨b, o + j, none⟩ = some u → xs[j]? = some u := by
    intro j u hj hu
    rw [hxs, List.getElem?_map, List.getElem?_range hj]
    simp [hu]
  have each : ∀ i (hi : i < l.length), w.cell? ⟨b, o + i * 4, none⟩ = some (.int .i64 l[i].worn) ∧ w.cell? ⟨b, o + i * 4 + 1, none⟩ = some (.int .i64 l[i].limit) ∧ w.cell? ⟨b, o + i * 4 + 2, none⟩ = some (.int .i64 l[i].price) ∧ ∃ q c, w.cell? ⟨b, o + i * 4 + 3, none⟩ = some (.slice q l[i].plays.length c) ∧ IntsAt w q l[i].plays := by
    intro i hi
    obtain ⟨b', o', q, c, he, h1, h2, h3, h4, h5⟩ := h i hi
    cases he
    exact ⟨h1, h2, h3, q, c, h4, h5⟩
  refine ⟨xs, hlen, ?_, ?_⟩
  · intro j u hj
    have hjl : j < l.length * 4 := by have := (List.getElem?_eq_some_iff.1 hj).1; omega
    have hs : ∃ v, w.cell? ⟨b, o + j, none⟩ = some v := by
      obtain ⟨h1, h2, h3, q, c, h4, -⟩ := each (j / 4) (by omega)
      have hm : j % 4 = 0 ∨ j % 4 = 1 ∨ j % 4 = 2 ∨ j % 4 = 3 := by omega
      rcases hm with hm | hm | hm | hm
      · exact ⟨_, by rw [show o + j = o + j / 4 * 4 from by omega]; exact h1⟩
      · exact ⟨_, by rw [show o + j = o + j / 4 * 4 + 1 from by omega]; exact h2⟩
      · exact ⟨_, by rw [show o + j = o + j / 4 * 4 + 2 from by omega]; exact h3⟩
      · exact ⟨_, by rw [show o + j = o + j / 4 * 4 + 3 from by omega]; exact h4⟩
    obtain ⟨v, hv⟩ := hs
    rw [key j v hjl hv] at hj
    cases hj
    rw [hadd, hv]
  · intro i hi
    obtain ⟨h1, h2, h3, q, c, h4, h5⟩ := each i hi
    exact ⟨key _ _ (by omega) h1, key _ _ (by omega) (by rw [← Nat.add_assoc]; exact h2), key _ _ (by omega) (by rw [← Nat.add_assoc]; exact h3), q, c, key _ _ (by omega) (by rw [← Nat.add_assoc]; exact h4), h5⟩

/-- records appended to a new empty row -/
theorem step_recs_e {ops : Array Oper} {E : Prop} {w : World} {o : Oper} {a : Act} {K : Act → World → Prop} {Q : Exit → Act → World → Prop} (hgd : o.guard = none) (s x : Operand)
    (ho : o.op = .call { callee := .builtin .append, args := #[s, x], argTypes := #[23, 23] })
    (H : Nat) (hs : a.eval s = .slice (some ⟨H, 0, none⟩) 0 0) (p : Option Addr) (l : List Rec) (c : Nat) (hx : a.eval x = .slice p l.length c)
    (hown : w.ownsRow H 54 4 (.slice (some ⟨H, 0, none⟩) 0 0) 0 [])
    (hl : RecsAt w p l) (hle : l.length ≤ 1000)
    (h : ∀ g cn w' xs, w'.ownsRow g 54 4 (.slice (some ⟨g, 0, none⟩) l.length cn) l.length xs → RcAt w xs l → Ext w w' → (g = H ∨ g = w.heap.size) → g < w'.heap.size → K (a.put o.dst (.slice (some ⟨g, 0, none⟩) l.length cn)) w') :
    if Region.wanted o (yielded ops a.tmps) = true then Oper.wp Try.prog o a w K Q else E := by
  have hw : Region.wanted o (yielded ops a.tmps) = true := by simp [Region.wanted, hgd]
  rw [if_pos hw]
  have hH : H < w.heap.size := (hown.lt H rfl).2
  obtain ⟨i0, hi, hz0, hz1, hz2⟩ := info_parts info_rec
  cases l with
  | nil =>
    have hrun := run_append_owned_zero (P := Try.prog) (w := w) H 23 o.type 54 i0 4 Try.underlying23 hi _ 0 c p [] hown
    unfold Oper.wp
    simp only [List.length_nil] at hx
    simp [execOp, ho, resolve, invoke, builtin, hs, hx, hrun, Result.andThen]
    exact h H 0 w [] hown (fun i h => absurd h (by simp)) (Ext.refl w) (Or.inl rfl) hH
  | cons y r =>
    obtain ⟨l, hll⟩ : ∃ l, l = y :: r := ⟨_, rfl⟩
    rw [← hll] at h hx hl hle
    have hpos : 0 < l.length := by rw [hll]; simp
    clear hll
    obtain ⟨b0, o0, -, -, rfl, -⟩ := hl 0 hpos
    obtain ⟨xs, hxl, hxc, hrc⟩ := recs_news hl
    refine wp_new_row s x 23 ho 54 i0 _ 4 48 Try.underlying23 hi hz0 hz1 hz2 rfl (by decide) _ hs ⟨b0, o0, none⟩ l.length c xs hx hxl hxc hpos hle ?_
    intro cap w' hE ho' hlt
    exact h _ cap w' xs ho' hrc hE (Or.inr rfl) hlt
end Go.Proofs.Ytkcilgjkdiopnaa
namespace Go.Proofs.Ytkcilgjkdiopnaa
open Go.RowKit

def Stp (a b : World) : Prop := Ext a b
theorem Stp.out {a b : World} (h : Stp a b) : Ext a b := h
theorem Stp.mk {a b : World} (h : Ext a b) : Stp a b := h
/-- the blocks below B are as they were -/
structure Bel (a : World) (B : Nat) (x : World) : Prop where
  le : B ≤ a.heap.size
  be : Below B a x
theorem Bel.refl {a : World} {B : Nat} (h : B ≤ a.heap.size) : Bel a B a := ⟨h, Below.refl _ _⟩
theorem Bel.alloc {a x : World} {B : Nat} (h : Bel a B x) (o : Obj) : Bel a B (x.alloc o) := ⟨h.le, h.be.alloc (Nat.le_trans h.le h.be.size) o⟩
theorem Bel.drew {a x : World} {B : Nat} (h : Bel a B x) : Bel a B x.drew := ⟨h.le, h.be.drew⟩
theorem Bel.step {a x y : World} {B : Nat} (h : Bel a B x) (k : Stp x y) : Bel a B y := ⟨h.le, h.be.trans (Below.mono k.out (Nat.le_trans h.le h.be.size))⟩
theorem Bel.set {a x : World} {B c o : Nat} {u : Value} (h : Bel a B x) (hc : B ≤ c) : Bel a B (x.setCell ⟨c, o, none⟩ u) := ⟨h.le, h.be.setCell (p := ⟨c, o, none⟩) hc u⟩
theorem Bel.ext {w a x : World} {B : Nat} (h : Bel a B x) (hE : Ext w a) (hB : w.heap.size ≤ B) : Ext w x := Below.trans hE (h.be.mono hB)
theorem Bel.cell {a x : World} {B b o : Nat} {v : Value} (h : Bel a B x) (hb : b < B) (hc : a.cell? ⟨b, o, none⟩ = some v) : x.cell? ⟨b, o, none⟩ = some v := (Below.cell h.be (p := ⟨b, o, none⟩) hb).trans hc
theorem size_drew (w : World) : w.drew.heap.size = w.heap.size := rfl
theorem ownsRow_step {x y : World} {B : Nat} {e : TypeId} {size : Nat} {v : Value} {n : Nat} {xs : List Value} (h : x.ownsRow B e size v n xs) (k : Stp x y) : y.ownsRow B e size v n xs := ownsRow_ext h k.out
theorem own_made2 (w : World) (A : Obj) (t : TypeId) (size : Nat) : ((w.alloc A).alloc (.cells #[] t)).ownsRow (w.heap.size + 1) t size (.slice (some ⟨w.heap.size + 1, 0, none⟩) 0 0) 0 [] := by
  have := World.ownsRow_made (w.alloc A) #[] 0 (Nat.le_refl _) (by decide) (by simp : (#[] : Array Value).size = 0 * size) (e := t)
  rwa [size_alloc] at this

/-- records in cells: the plays of the first k of them lie in rows of their own -/
structure RcP (M : Nat) (W : World) (k : Nat) (xs : List Value) (l : List Rec) (g c : Nat → Nat) : Prop where
  fix : ∀ i (h : i < l.length), xs[i * 4]? = some (.int .i64 l[i].worn) ∧ xs[i * 4 + 1]? = some (.int .i64 l[i].limit) ∧ xs[i * 4 + 2]? = some (.int .i64 l[i].price) ∧ ∃ u, xs[i * 4 + 3]? = some u
  row : ∀ i (h : i < l.length), i < k → xs[i * 4 + 3]? = some (.slice (some ⟨g i, 0, none⟩) l[i].plays.length (c i)) ∧ W.ownsRow M 3 1 (.slice (some ⟨g i, 0, none⟩) l[i].plays.length (c i)) l[i].plays.length (intVs l[i].plays)
  inj : ∀ i j, i < j → j < k → j < l.length → g i ≠ g j
def updN (f : Nat → Nat) (k s : Nat) : Nat → Nat := fun j => if j = k then s else f j
theorem RcP.fr {M k : Nat} {W W' : World} {xs : List Value} {l : List Rec} {g c : Nat → Nat} {E : Nat → Prop} (h : RcP M W k xs l g c) (hF : Fr E W W') (hE : ∀ b, M ≤ b → ¬E b) : RcP M W' k xs l g c :=
  ⟨h.fix, fun i hi hk => ⟨(h.row i hi hk).1, ownsRow_fr (h.row i hi hk).2 hF (fun b hb => hE b ((h.row i hi hk).2.lt b hb).1)⟩, h.inj⟩
theorem RcP.base {M M' k : Nat} {W : World} {xs : List Value} {l : List Rec} {g c : Nat → Nat} (h : RcP M W k xs l g c) (hM : M' ≤ M) : RcP M' W k xs l g c :=
  ⟨h.fix, fun i hi hk => ⟨(h.row i hi hk).1, ownsRow_base (h.row i hi hk).2 hM⟩, h.inj⟩
theorem RcP.step {M k gq o g1 c1 : Nat} {W W9 : World} {xs : List Value} {l : List Rec} {g c : Nat → Nat} (h : RcP M W k xs l g c) (hk : k < l.length) (hxs : xs.length = l.length * 4) (hE : Ext W W9) (ho : o = k * 4 + 3) (hq : gq < M)
    (hown : W9.ownsRow M 3 1 (.slice (some ⟨g1, 0, none⟩) l[k].plays.length c1) l[k].plays.length (intVs l[k].plays)) (hg : W.heap.size ≤ g1) :
    RcP M (W9.setCell ⟨gq, o, none⟩ (.slice (some ⟨g1, 0, none⟩) l[k].plays.length c1)) (k + 1) (xs.set o (.slice (some ⟨g1, 0, none⟩) l[k].plays.length c1)) l (updN g k g1) (updN c k c1) := by
  subst ho
  have hFs : Fr (fun b => b = gq) W9 (W9.setCell ⟨gq, k * 4 + 3, none⟩ (.slice (some ⟨g1, 0, none⟩) l[k].plays.length c1)) := (Fr.refl _ _).set rfl
  have hlt : ∀ i, i < k → g i < W.heap.size := fun i hi => ((h.row i (by omega) hi).2.lt (g i) rfl).2
  refine ⟨fun i hi => ?_, fun i hi hik => ?_, fun i j hij hj hjl => ?_⟩
  · obtain ⟨h1, h2, h3, u, h4⟩ := h.fix i hi
    refine ⟨by rw [List.getElem?_set_ne (by omega)]; exact h1, by rw [List.getElem?_set_ne (by omega)]; exact h2, by rw [List.getElem?_set_ne (by omega)]; exact h3, ?_⟩
    by_cases e : i = k
    · subst e; exact ⟨_, by rw [List.getElem?_set_self (by omega)]⟩
    · exact ⟨u, by rw [List.getElem?_set_ne (by omega)]; exact h4⟩
  · by_cases e : i = k
    · subst e
      unfold updN
      rw [if_pos rfl, if_pos rfl]
      exact ⟨by rw [List.getElem?_set_self (by omega)], ownsRow_fr hown hFs (fun b hb e2 => by have := (hown.lt b hb).1; omega)⟩
    · obtain ⟨k1, k2⟩ := h.row i hi (by omega)
      unfold updN
      rw [if_neg e, if_neg e]
      exact ⟨by rw [List.getElem?_set_ne (by omega)]; exact k1, ownsRow_fr (ownsRow_ext k2 hE) hFs (fun b hb e2 => by have := (k2.lt b hb).1; omega)⟩
  · unfold updN
    rw [if_neg (by omega : ¬i = k)]
    by_cases e : j = k
    · rw [if_pos e]; have := hlt i (by omega); omega
    · rw [if_neg e]; exact h.inj i j hij (by omega) hjl

/-- a box in memory of its own -/
def BoxOwn (M : Nat) (W : World) (v : Value) (X : Wr) : Prop := ∃ gp cp gq d xs g c,
  v = .agg #[.int .i64 X.weeks, .int .i64 X.price, .int .i64 X.age, .int .i64 X.step, .slice (some ⟨gp, 0, none⟩) X.rough.length cp, .slice (some ⟨gq, 0, none⟩) X.recs.length d] ∧
  W.ownsRow M 3 1 (.slice (some ⟨gp, 0, none⟩) X.rough.length cp) X.rough.length (intVs X.rough) ∧ W.ownsRow M 54 4 (.slice (some ⟨gq, 0, none⟩) X.recs.length d) X.recs.length xs ∧
  RcP M W X.recs.length xs X.recs g c ∧ gp ≠ gq ∧ ∀ i, i < X.recs.length → g i ≠ gp ∧ g i ≠ gq
theorem BoxOwn.wr {M : Nat} {W : World} {v : Value} {X : Wr} (h : BoxOwn M W v X) : WrV W v X := by
  obtain ⟨gp, cp, gq, d, xs, g, c, rfl, h1, h2, h3, -, -⟩ := h
  refine ⟨_, _, _, _, rfl, row_ints h1, fun i hi => ?_⟩
  obtain ⟨f1, f2, f3, -⟩ := h3.fix i hi
  obtain ⟨f4, f5⟩ := h3.row i hi hi
  have at4 : ∀ r, r < 4 → W.cell? ⟨gq, i * 4 + r, none⟩ = xs[i * 4 + r]? := fun r hr => by
    obtain ⟨b, c', he, hc⟩ := ownsRow_cell h2 (i * 4 + r) (by omega)
    cases he
    exact hc
  refine ⟨gq, 0, some ⟨g i, 0, none⟩, c i, rfl, ?_, ?_, ?_, ?_, row_ints f5⟩
  · rw [Nat.zero_add, ← f1]; exact at4 0 (by omega)
  · rw [Nat.zero_add, ← f2]; exact at4 1 (by omega)
  · rw [Nat.zero_add, ← f3]; exact at4 2 (by omega)
  · rw [Nat.zero_add, ← f4]; exact at4 3 (by omega)
theorem BoxOwn.ext {M : Nat} {W W' : World} {v : Value} {X : Wr} (h : BoxOwn M W v X) (hE : Ext W W') : BoxOwn M W' v X := by
  obtain ⟨gp, cp, gq, d, xs, g, c, rfl, h1, h2, h3, h4, h5⟩ := h
  exact ⟨gp, cp, gq, d, xs, g, c, rfl, ownsRow_ext h1 hE, ownsRow_ext h2 hE, h3.fr (hE.fr (fun _ => False)) (fun _ _ h => h), h4, h5⟩

set_option maxRecDepth 20000 in
set_option maxHeartbeats 6400000 in
theorem Copy03 (v : Value) (X : Wr) (w : World) (hv : WrV w v X) (hg : X.rough.length ≤ 1000) (hc : X.recs.length ≤ 1000) (hpl : ∀ r ∈ X.recs, r.plays.length ≤ 1000) :
    Calls Try.prog 17 #[v] w (fun e w' => ∃ v, e = .returned v ∧ Ext w w' ∧ BoxOwn (w.heap.size + 3) w' v X) := by
  obtain ⟨p, c, q, d, rfl, h1, h2⟩ := hv
  go_enter Try.func17, Try.ntmps17
  go_upto_region 2 with (fail)
  obtain ⟨W, hW⟩ : ∃ W, W = ((w.alloc (.cells (wrCells X p c q d) 25)).alloc (.cells #[.int .i64 0, .int .i64 0, .int .i64 0, .int .i64 0, .slice none 0 0, .slice none 0 0] 25)).alloc (.cells (wrCells X p c q d) 25) := ⟨_, rfl⟩
  have hb0 : W.heap[w.heap.size]? = some (.cells (wrCells X p c q d) 25) := by rw [hW]; exact heap3_0 w _ _ _
  have hb1 : W.heap[w.heap.size + 1]? = some (.cells #[.int .i64 0, .int .i64 0, .int .i64 0, .int .i64 0, .slice none 0 0, .slice none 0 0] 25) := by rw [hW]; exact heap_old _ (heap_newN _ (by simp only [size_alloc]))
  have hb2 : W.heap[w.heap.size + 1 + 1]? = some (.cells (wrCells X p c q d) 25) := by rw [hW]; exact heap_newN _ (by simp only [size_alloc])
  have hE : Ext w W := by rw [hW]; exact Ext.alloc (Ext.alloc (Ext.alloc (Ext.refl w) _) _) _
  have hWs : W.heap.size = w.heap.size + 3 := by rw [hW]; simp only [size_alloc]
  unfold wrCells at hW hb0 hb2
  rw [← hW]
  have hWB : Bel W (w.heap.size + 1) W := Bel.refl (by omega)
  have HWB := Lib.hid hWB
  have HQ := Lib.hid (fun x (h : Bel W (w.heap.size + 1) x) => (⟨h.cell (Nat.lt_succ_self _) ((cell_of_heap hb0 4).trans rfl), h.cell (Nat.lt_succ_self _) ((cell_of_heap hb0 5).trans rfl)⟩ : x.cell? ⟨w.heap.size, 4, none⟩ = some (.slice p X.rough.length c) ∧ x.cell? ⟨w.heap.size, 5, none⟩ = some (.slice q X.recs.length d)))
  have HI := Lib.hid (fun x (h : Bel W (w.heap.size + 1) x) => h1.ext (h.ext hE (by omega)))
  have HP := Lib.hid (fun x (h : Bel W (w.heap.size + 1) x) => h2.ext (h.ext hE (by omega)))
  have HES := Lib.hid hE
  have HIW := Lib.hid h1
  have HPW := Lib.hid h2
  have HIW := Lib.hid h1
  have HPW := Lib.hid h2
  have HIW := Lib.hid h1
  have HPW := Lib.hid h2
  have HB1 := Lib.hid hb1
  have HB2 := Lib.hid hb2
  have HWS := Lib.hid hWs
  clear hW hWB hE hWs h1 h2 hb0 hb1
  have f0 : ∀ z, Ext W z → z.cell? ⟨w.heap.size + 1 + 1, 4, none⟩ = some (.slice p X.rough.length c) ∧ z.cell? ⟨w.heap.size + 1 + 1, 5, none⟩ = some (.slice q X.recs.length d) ∧ z.frozen? ⟨w.heap.size + 1 + 1, 4, none⟩ = false ∧ z.frozen? ⟨w.heap.size + 1 + 1, 5, none⟩ = false := fun z hz =>
    ⟨hz.cell ((cell_of_heap hb2 4).trans rfl), hz.cell ((cell_of_heap hb2 5).trans rfl), cell_frozen ((Below.block hz _ (Array.getElem?_eq_some_iff.1 hb2).1).trans hb2) 4, cell_frozen ((Below.block hz _ (Array.getElem?_eq_some_iff.1 hb2).1).trans hb2) 5⟩
  clear hb2
  have HF0 := Lib.hid f0
  clear f0
  go_region_held3 (fun x => x.cell? ⟨w.heap.size, 4, none⟩ = some (.slice p X.rough.length c) ∧ x.cell? ⟨w.heap.size, 5, none⟩ = some (.slice q X.recs.length d))
    ((refine HQ.out _ ?_; repeat (first | exact HWB.out | refine Bel.alloc ?_ _ | refine Bel.drew ?_ | refine Bel.step ?_ (by assumption) | refine Bel.set ?_ (by omega))))
    (first
      | (refine step_row_e rfl (.tmp 6) (.tmp 8) rfl _ rfl p X.rough c rfl (by repeat (first | exact World.ownsRow_made _ #[] 0 (Nat.le_refl _) (by decide) rfl | exact own_made2 _ _ _ _ | refine World.ownsRow.alloc ?_ _ | refine ownsRow_step ?_ (by assumption))) (HI.out _ (by repeat (first | exact HWB.out | refine Bel.alloc ?_ _ | refine Bel.drew ?_ | refine Bel.step ?_ (by assumption) | refine Bel.set ?_ (by omega)))) hg ?_; intro g2 cn2 w2 ho2 hE2 ha2 hl2; have hS2 := Stp.mk hE2; have HO2 := Lib.hid ho2; have HA2 := Lib.hid ha2; clear ho2 hE2 ha2)
      | (refine step_recs_e rfl (.tmp 10) (.tmp 12) rfl _ rfl q X.recs d rfl (by repeat (first | exact World.ownsRow_made _ #[] 0 (Nat.le_refl _) (by decide) rfl | exact own_made2 _ _ _ _ | refine World.ownsRow.alloc ?_ _ | refine ownsRow_step ?_ (by assumption))) (HP.out _ (by repeat (first | exact HWB.out | refine Bel.alloc ?_ _ | refine Bel.drew ?_ | refine Bel.step ?_ (by assumption) | refine Bel.set ?_ (by omega)))) hc ?_; intro g3 cn3 w3 xs ho3 hrc hE3 ha3 hl3; have hS3 := Stp.mk hE3; have HO3 := Lib.hid ho3; have HA3 := Lib.hid ha3; have HRC := Lib.hid hrc; clear ho3 hE3 ha3 hrc; obtain ⟨y1, y2, y3, y4⟩ := HF0.out w3 (by repeat (first | exact Ext.refl _ | refine Ext.alloc ?_ _ | refine Ext.drew ?_ | refine Ext.trans ?_ (Stp.out (by assumption))))))
  all_goals
    have ex2 := Ext.size (Stp.out hS2)
    have ex3 := Ext.size (Stp.out hS3)
    have ea2 := HA2.out
    have ea3 := HA3.out
    have exW := HWS.out
    try simp only [size_alloc] at ex2
    try simp only [size_drew] at ex2
    try simp only [size_alloc] at ex2
    try simp only [size_alloc] at ex3
    try simp only [size_drew] at ex3
    try simp only [size_alloc] at ea2
    try simp only [size_drew] at ea2
    try simp only [size_alloc] at ea2
    try simp only [size_alloc] at ea3
    try simp only [size_drew] at ea3
    have hgg : g2 ≠ g3 := by omega
    have hl23 : g2 < w3.heap.size := by omega
    have hm2 : w.heap.size + 3 ≤ g2 := by omega
    have hm3 : w.heap.size + 3 ≤ g3 := by omega
    have hE3 : Ext W w3 := by repeat (first | exact Ext.refl _ | refine Ext.alloc ?_ _ | refine Ext.drew ?_ | refine Ext.trans ?_ (Stp.out (by assumption)))
    have hE23 : Ext w2 w3 := by repeat (first | exact Ext.refl _ | refine Ext.alloc ?_ _ | refine Ext.drew ?_ | refine Ext.trans ?_ (Stp.out hS3))
    generalize hW5 : World.setCell _ _ _ = W5
    have hF5 : Fr (fun k => k = w.heap.size + 1 + 1) w3 W5 := by rw [← hW5]; exact ((Fr.refl (fun k => k = w.heap.size + 1 + 1) w3).set rfl).set rfl
    have hEw5 : Ext w W5 := Fr.ext (HES.out.trans hE3) hF5 (fun i hi => by have e : i = w.heap.size + 1 + 1 := hi; omega)
    have hd5 : W5.heap[w.heap.size + 1 + 1]? = some (.cells #[.int .i64 X.weeks, .int .i64 X.price, .int .i64 X.age, .int .i64 X.step, .slice (some ⟨g2, 0, none⟩) X.rough.length cn2, .slice (some ⟨g3, 0, none⟩) X.recs.length cn3] 25 (0, 0)) := by
      rw [← hW5]
      exact heap_set (heap_set ((Below.block hE3 _ (Array.getElem?_eq_some_iff.1 HB2.out).1).trans HB2.out) rfl) rfl
    have hz5 : W5.heap[w.heap.size + 1]? = some (.cells #[.int .i64 0, .int .i64 0, .int .i64 0, .int .i64 0, .slice none 0 0, .slice none 0 0] 25 (0, 0)) :=
      (hF5.block _ (by have := hE3.size; omega) (by omega)).trans ((Below.block hE3 _ (Array.getElem?_eq_some_iff.1 HB1.out).1).trans HB1.out)
    have hq5 : W5.cell? ⟨w.heap.size, 5, none⟩ = some (.slice q X.recs.length d) := by
      have := (HQ.out _ ((HWB.out.step (Stp.mk hE3)).set (c := w.heap.size + 1 + 1) (o := 4) (u := .slice (some ⟨g2, 0, none⟩) X.rough.length cn2) (by omega) |>.set (c := w.heap.size + 1 + 1) (o := 5) (u := .slice (some ⟨g3, 0, none⟩) X.recs.length cn3) (by omega))).2
      rw [← hW5]
      exact this
    have hr5 : W5.ownsRow (w.heap.size + 3) 3 1 (.slice (some ⟨g2, 0, none⟩) X.rough.length cn2) X.rough.length (intVs X.rough) := ownsRow_fr (ownsRow_ext (ownsRow_base HO2.out hm2) hE23) hF5 (fun b hb e => by cases hb; have e2 : g2 = w.heap.size + 1 + 1 := e; omega)
    have hs5 : W5.ownsRow (w.heap.size + 3) 54 4 (.slice (some ⟨g3, 0, none⟩) X.recs.length cn3) X.recs.length xs := ownsRow_fr (ownsRow_base HO3.out hm3) hF5 (fun b hb e => by cases hb; have e2 : g3 = w.heap.size + 1 + 1 := e; omega)
    have hp5 : RcP W5.heap.size W5 0 xs X.recs (fun _ => 0) (fun _ => 0) := ⟨fun i hi => by obtain ⟨k1, k2, k3, k4, k5, k6, -⟩ := HRC.out i hi; exact ⟨k1, k2, k3, _, k6⟩, fun i _ h => absurd h (by omega), fun i j _ h => absurd h (by omega)⟩
    have hsz5 : g2 < W5.heap.size ∧ g3 < W5.heap.size ∧ w.heap.size + 3 ≤ W5.heap.size := by have := hF5.size; have := hE3.size; omega
    have HEW5 := Lib.hid hEw5
    have HD5 := Lib.hid hd5
    have HZ5 := Lib.hid hz5
    have HQ5 := Lib.hid hq5
    have HR5 := Lib.hid hr5
    have HS5 := Lib.hid hs5
    have HP5 := Lib.hid hp5
    have HGG := Lib.hid hgg
    have HSZ := Lib.hid hsz5
    clear hW5 hF5 hEw5 hd5 hz5 hq5 hr5 hs5 hp5 hgg hsz5 hE3 hE23 hl23 ex2 ex3 ea2 ea3 exW hS2 hS3 HO2 HO3 HA2 HA3 HRC y1 y2 y3 y4 hl2 hl3 HQ HI HP HB1 HB2 HF0 HWB HES HWS hm2
    go_wp2
    go_loopw [4] (fun i wr => ∃ (k : Nat) (ys : List Value) (g c : Nat → Nat), k ≤ X.recs.length ∧ i = .int .i64 k ∧ RcP W5.heap.size wr k ys X.recs g c ∧ wr.ownsRow (w.heap.size + 3) 54 4 (.slice (some ⟨g3, 0, none⟩) X.recs.length cn3) X.recs.length ys ∧ Fr (fun i => i = g3) W5 wr) (fun i _ => X.recs.length - (intOf i).toNat)
    case atStart => exact ⟨0, _, _, _, by omega, rfl, HP5.out, HS5.out, Fr.refl _ _⟩
    case round =>
      obtain ⟨k, ys, g, cc, hk, rfl, hp, hs, hF⟩ := hrel
      have hsz := HSZ.out
      have hd : wr.heap[w.heap.size + 1 + 1]? = _ := (hF.block _ (by omega) (by omega)).trans HD5.out
      have hz : wr.heap[w.heap.size + 1]? = _ := (hF.block _ (by omega) (by omega)).trans HZ5.out
      have hq := hF.cell HQ5.out (by omega)
      have hEw : Ext w wr := Fr.ext HEW5.out hF (fun i hi => by have e : i = g3 := hi; omega)
      have HP := Lib.hid hp
      have HS := Lib.hid hs
      have HF := Lib.hid hF
      have HD := Lib.hid hd
      have HZ := Lib.hid hz
      have HE := Lib.hid hEw
      have HQQ := Lib.hid hq
      clear hp hs hF hsz hz hEw
      by_cases hlt : k < X.recs.length
      · obtain ⟨b, o, q', c', he, -, -, -, hc4, hi⟩ := HPW.out k hlt
        subst he
        have d5 : wr.cell? ⟨w.heap.size + 1 + 1, 5, none⟩ = some (.slice (some ⟨g3, 0, none⟩) X.recs.length cn3) := (cell_of_heap HD.out 5).trans rfl
        have hSS : ∀ z, Ext wr z → z.cell? ⟨w.heap.size + 1 + 1, 5, none⟩ = some (.slice (some ⟨g3, 0, none⟩) X.recs.length cn3) ∧ z.cell? ⟨w.heap.size, 5, none⟩ = some (.slice (some ⟨b, o, none⟩) X.recs.length d) ∧ z.cell? ⟨b, o + k * 4 + 3, none⟩ = some (.slice q' X.recs[k].plays.length c') := fun z hz =>
          ⟨hz.cell d5, hz.cell HQQ.out, (HE.out.trans hz).cell hc4⟩
        have HSS := Lib.hid hSS
        have HI := Lib.hid hi
        have hpk := hpl _ (List.getElem_mem hlt)
        clear hSS hi hc4 hq
        go_upto_region 6 with (fail)
        refine wp_region_heldT (fun z => z.cell? ⟨w.heap.size + 1 + 1, 5, none⟩ = some (.slice (some ⟨g3, 0, none⟩) X.recs.length cn3) ∧ z.cell? ⟨w.heap.size, 5, none⟩ = some (.slice (some ⟨b, o, none⟩) X.recs.length d) ∧ z.cell? ⟨b, o + k * 4 + 3, none⟩ = some (.slice q' X.recs[k].plays.length c')) 11
          [(true, 0), (true, 1), (true, 2), (true, 4), (true, 5), (true, 6), (true, 7), (true, 8), (true, 9), (false, 3), (false, 10)] (by kernel_rfl) (by kernel_rfl) (HSS.out _ (Ext.refl wr).drew) ?_
        simp only [List.map_cons, List.map_nil, List.getElem?_cons_zero, List.getElem?_cons_succ]
        repeat (refine wpHL_take (v := ?_) (by rfl) ?_ (fun _ _ _ h => h) ?_; rotate_left 1; (intro z hz; (try dsimp only at hz); go_simp; (try with_reducible rfl)); simp only [Act.put, List.setIfInBounds_toArray, List.set_cons_zero, List.set_cons_succ])
        refine wpHL_step (fun K hK => ?_)
        go_simp
        refine hK.out _ _ (HSS.out _ ((Ext.refl wr).drew.alloc _)) ?_
        clear hK K
        try simp only [Act.put, List.setIfInBounds_toArray, List.set_cons_zero, List.set_cons_succ]
        refine wpHL_step (fun K hK => ?_)
        refine step_row_e rfl (.tmp 26) (.tmp 32) rfl wr.drew.heap.size rfl q' X.recs[k].plays c' rfl (World.ownsRow_made wr.drew #[] 0 (Nat.le_refl _) (by decide) rfl) (HI.out.ext (HE.out.drew.alloc _)) hpk ?_
        intro g1 c1 w9 ho9 hE9' ha9 hl9
        have hE9 : Ext wr w9 := ((Ext.refl wr).drew.alloc _).trans hE9'
        refine hK.out _ _ (HSS.out _ hE9) ?_
        clear hK K
        have hg1 : wr.heap.size ≤ g1 := by
          have : (wr.drew.alloc (.cells #[] 3)).heap.size = wr.heap.size + 1 := size_alloc _ _
          have e : wr.drew.heap.size = wr.heap.size := rfl
          have e2 : (wr.alloc (.cells #[] 3)).drew.heap.size = wr.heap.size + 1 := size_alloc _ _
          omega
        have hs9 := ownsRow_ext HS.out hE9
        obtain ⟨-, -, -, u, hu⟩ := HP.out.fix k hlt
        obtain ⟨b9, c9, he9, hc9⟩ := ownsRow_cell hs9 (k * 4 + 3) (by omega)
        cases he9
        rw [hu] at hc9
        have f9 := ownsRow_frozen (i := k * 4 + 3) hs9
        have hset := ownsRow_setV (i := k * 4 + 3) (u := .slice (some ⟨g1, 0, none⟩) X.recs[k].plays.length c1) hs9
        have hst := RcP.step HP.out hlt HS.out.1 hE9 (o := k * 4 + 3) rfl HSZ.out.2.1 (ownsRow_base ho9 (by have := HF.out.size; omega)) hg1
        have hF9 : Fr (fun i => i = g3) W5 (w9.setCell ⟨g3, k * 4 + 3, none⟩ (.slice (some ⟨g1, 0, none⟩) X.recs[k].plays.length c1)) := (HF.out.trans (hE9.fr _)).set rfl
        have HST := Lib.hid hst
        have HSET := Lib.hid hset
        have HF9 := Lib.hid hF9
        clear hst hset hF9 ho9 hE9' ha9 hs9 hu hg1 hE9 d5 hd
        try simp only [Act.put, List.setIfInBounds_toArray, List.set_cons_zero, List.set_cons_succ]
        refine wpHL_nil ?_
        simp only [List.drop_succ_cons, List.drop_zero]
        go_wp2
        go_roundw
        case rel => exact ⟨k + 1, _, _, _, by omega, by go_num, HST.out, HSET.out, HF9.out⟩
        case measure => simp [intOf]; omega
      · obtain rfl : k = X.recs.length := by omega
        have d0 : wr.cell? ⟨w.heap.size + 1 + 1, 0, none⟩ = some (.int .i64 X.weeks) := (cell_of_heap HD.out 0).trans rfl
        have d1 : wr.cell? ⟨w.heap.size + 1 + 1, 1, none⟩ = some (.int .i64 X.price) := (cell_of_heap HD.out 1).trans rfl
        have d2 : wr.cell? ⟨w.heap.size + 1 + 1, 2, none⟩ = some (.int .i64 X.age) := (cell_of_heap HD.out 2).trans rfl
        have d3 : wr.cell? ⟨w.heap.size + 1 + 1, 3, none⟩ = some (.int .i64 X.step) := (cell_of_heap HD.out 3).trans rfl
        have d4 : wr.cell? ⟨w.heap.size + 1 + 1, 4, none⟩ = some (.slice (some ⟨g2, 0, none⟩) X.rough.length cn2) := (cell_of_heap HD.out 4).trans rfl
        have d5 : wr.cell? ⟨w.heap.size + 1 + 1, 5, none⟩ = some (.slice (some ⟨g3, 0, none⟩) X.recs.length cn3) := (cell_of_heap HD.out 5).trans rfl
        have z0 : wr.cell? ⟨w.heap.size + 1, 0, none⟩ = some (.int .i64 0) := (cell_of_heap HZ.out 0).trans rfl
        have z1 : wr.cell? ⟨w.heap.size + 1, 1, none⟩ = some (.int .i64 0) := (cell_of_heap HZ.out 1).trans rfl
        have z2 : wr.cell? ⟨w.heap.size + 1, 2, none⟩ = some (.int .i64 0) := (cell_of_heap HZ.out 2).trans rfl
        have z3 : wr.cell? ⟨w.heap.size + 1, 3, none⟩ = some (.int .i64 0) := (cell_of_heap HZ.out 3).trans rfl
        have z4 : wr.cell? ⟨w.heap.size + 1, 4, none⟩ = some (.slice none 0 0) := (cell_of_heap HZ.out 4).trans rfl
        have z5 : wr.cell? ⟨w.heap.size + 1, 5, none⟩ = some (.slice none 0 0) := (cell_of_heap HZ.out 5).trans rfl
        have fz := fun i => cell_frozen HZ.out i
        clear hd hq
        go_wp2
        generalize hW9 : World.setCell _ _ _ = W9
        have hF9 : Fr (fun k => k = w.heap.size + 1) wr W9 := by rw [← hW9]; exact ((((((Fr.refl (fun k => k = w.heap.size + 1) wr).set rfl).set rfl).set rfl).set rfl).set rfl).set rfl
        have h9 : W9.heap[w.heap.size + 1]? = some (.cells #[.int .i64 X.weeks, .int .i64 X.price, .int .i64 X.age, .int .i64 X.step, .slice (some ⟨g2, 0, none⟩) X.rough.length cn2, .slice (some ⟨g3, 0, none⟩) X.recs.length cn3] 25 (0, 0)) := by rw [← hW9]; exact heap_set6 HZ.out
        have hEw9 : Ext w W9 := Fr.ext HE.out hF9 (fun i hi => by have e : i = w.heap.size + 1 := hi; omega)
        have hsz := HSZ.out
        have hp9 := (HP.out.fr hF9 (fun b hb e => by have e2 : b = w.heap.size + 1 := e; omega))
        refine bodyPost_ret (v := .agg #[.int .i64 X.weeks, .int .i64 X.price, .int .i64 X.age, .int .i64 X.step, .slice (some ⟨g2, 0, none⟩) X.rough.length cn2, .slice (some ⟨g3, 0, none⟩) X.recs.length cn3]) ?_ rfl ⟨_, rfl, hEw9, g2, cn2, g3, cn3, ys, g, cc, rfl, ?_, ?_, hp9.base (by omega), HGG.out, ?_⟩
        · have a0 := cell_of_heap h9 0
          have a1 := cell_of_heap h9 1
          have a2 := cell_of_heap h9 2
          have a3 := cell_of_heap h9 3
          have a4 := cell_of_heap h9 4
          have a5 := cell_of_heap h9 5
          simp at a0 a1 a2 a3 a4 a5
          simp [results, Try.results17, go_sem, a0, a1, a2, a3, a4, a5]
        · exact ownsRow_fr (ownsRow_fr HR5.out HF.out (fun b hb e => by cases hb; have e2 : g2 = g3 := e; exact HGG.out e2)) hF9 (fun b hb e => by have := (HR5.out.lt b hb).1; have e2 : b = w.heap.size + 1 := e; omega)
        · exact ownsRow_fr HS.out hF9 (fun b hb e => by have := (HS.out.lt b hb).1; have e2 : b = w.heap.size + 1 := e; omega)
        · intro i hi
          have := ((hp9.row i hi hi).2.lt (g i) rfl).1
          omega
end Go.Proofs.Ytkcilgjkdiopnaa
