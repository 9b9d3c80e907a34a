/- The walk of the reference's All: what is worn after each week of a plan. -/
import Derived.Test.YtkcilgjkdiopnaaR3a
import Derived.Test.YtkcilgjkdiopnaaR3b
namespace Go.Proofs.Ytkcilgjkdiopnaa
open Go.RowKit

structure Pd where
  worn : List Int
  age : Int
theorem info_pd : (Try.prog.info? 100).map (fun i => (i.zero, i.size, i.bytes)) = some (some (.agg #[.slice none 0 0, .int .i64 0]), 2, 32) := by kernel_rfl
/-- the cells of Played, whose lists lie in memory from M on, apart from block r -/
def PdR (M : Nat) (W : World) (r : Option Nat) (xs : List Value) (l : List Pd) : Prop :=
  ∀ i (h : i < l.length), ∃ q c, xs[i * 2]? = some (.slice q l[i].worn.length c) ∧ xs[i * 2 + 1]? = some (.int .i64 l[i].age) ∧ IntsAt W q l[i].worn ∧ (∀ a, q = some a → M ≤ a.block) ∧ ∀ a, q = some a → l[i].worn ≠ [] → r ≠ some a.block
theorem PdR.fr {M : Nat} {W W' : World} {r : Option Nat} {xs : List Value} {l : List Pd} {E : Nat → Prop} (h : PdR M W r xs l) (hF : Fr E W W') (hE : ∀ k, M ≤ k → E k → r = some k) : PdR M W' r xs l := by
  intro i hi
  obtain ⟨q, c, h1, h2, h3, h4, h5⟩ := h i hi
  exact ⟨q, c, h1, h2, h3.fr hF (fun a ha hne he => h5 a ha hne (hE _ (h4 a ha) he)), h4, h5⟩
theorem PdR.step {M : Nat} {W W' : World} {r : Option Nat} {xs : List Value} {l : List Pd} {g : Nat} {x : Pd} {mp : Option Addr} {mc : Nat} (h : PdR M W r xs l) (hxs : xs.length = l.length * 2) (hg : W.grownBy W' r) (hat : r = some g ∨ g = W.heap.size)
    (hma : IntsAt W mp x.worn) (hmb : ∀ a, mp = some a → M ≤ a.block) (hmr : ∀ a, mp = some a → x.worn ≠ [] → r ≠ some a.block) : PdR M W' (some g) (xs ++ [.slice mp x.worn.length mc, .int .i64 x.age]) (l ++ [x]) := by
  have keep : ∀ (q : Option Addr) (rs : List Int), IntsAt W q rs → (∀ a, q = some a → rs ≠ [] → r ≠ some a.block) → IntsAt W' q rs ∧ ∀ a, q = some a → rs ≠ [] → some g ≠ some a.block := by
    intro q rs hq hr
    refine ⟨fun i hi => ?_, fun a ha hne e => ?_⟩
    · obtain ⟨b, o, v, hp, hc, hv⟩ := hq i hi
      exact ⟨b, o, v, hp, hg.cell hc (fun e => hr _ hp (by intro h0; rw [h0] at hi; simp at hi) e.symm), hv⟩
    · rcases hat with h1 | h1
      · exact hr a ha hne (h1.trans e)
      · have := ints_lt hq a ha hne
        have e2 : g = a.block := Option.some.inj e
        omega
  intro i hi
  rw [List.length_append, List.length_singleton] at hi
  by_cases e : i < l.length
  · obtain ⟨q, c, h1, h2, h3, h4, h5⟩ := h i e
    obtain ⟨k1, k2⟩ := keep q _ h3 h5
    rw [List.getElem_append_left e]
    exact ⟨q, c, by rw [List.getElem?_append_left (by omega)]; exact h1, by rw [List.getElem?_append_left (by omega)]; exact h2, k1, h4, k2⟩
  · obtain rfl : i = l.length := by omega
    obtain ⟨k1, k2⟩ := keep mp _ hma hmr
    have hx : (l ++ [x])[l.length]'(by simp) = x := by simp
    rw [hx]
    refine ⟨mp, mc, ?_, ?_, k1, hmb, k2⟩
    · rw [List.getElem?_append_right (by omega), hxs]; simp
    · rw [List.getElem?_append_right (by omega), hxs]; simp

/-- a slice of Played -/
def PdsAt (w : World) (p : Option Addr) (l : List Pd) : Prop :=
  ∀ i (h : i < l.length), ∃ b o q c, p = some ⟨b, o, none⟩ ∧ w.cell? ⟨b, o + i * 2, none⟩ = some (.slice q l[i].worn.length c) ∧ w.cell? ⟨b, o + i * 2 + 1, none⟩ = some (.int .i64 l[i].age) ∧ IntsAt w q l[i].worn
theorem PdsAt.ext {w w' : World} {p : Option Addr} {l : List Pd} (h : PdsAt w p l) (hE : Ext w w') : PdsAt w' p l := by
  intro i hi
  obtain ⟨b, o, q, c, hp, h1, h2, h3⟩ := h i hi
  exact ⟨b, o, q, c, hp, hE.cell h1, hE.cell h2, h3.ext hE⟩
theorem PdR.out {M B : Nat} {W : World} {u : Value} {xs : List Value} {l : List Pd} (h : PdR M W u.ownBlock xs l) (ho : W.ownsRow B 100 2 u l.length xs) (hl : l ≠ []) : ∃ g c, u = .slice (some ⟨g, 0, none⟩) l.length c ∧ PdsAt W (some ⟨g, 0, none⟩) l := by
  have hl0 : 0 < l.length := List.length_pos_iff.2 hl
  obtain ⟨g, c, he, -⟩ := ownsRow_cell ho 0 (by omega)
  refine ⟨g, c, he, fun i hi => ?_⟩
  obtain ⟨b1, c1, he1, k0⟩ := ownsRow_cell ho (i * 2) (by omega)
  obtain ⟨b2, c2, he2, k1⟩ := ownsRow_cell ho (i * 2 + 1) (by omega)
  rw [he] at he1 he2
  cases he1
  cases he2
  obtain ⟨q, cc, m0, m1, m2, -, -⟩ := h i hi
  exact ⟨g, 0, q, cc, rfl, by rw [Nat.zero_add, k0, m0], by rw [Nat.zero_add, k1, m1], m2⟩
theorem wpList_row_of {w : World} {ops : Array Oper} {rest : List Oper} {o : Oper} {a : Act} {Q : Exit → Act → World → Prop} (hgd : o.guard = none) (s x : Operand)
    (ho : o.op = .call { callee := .builtin .append, args := #[s, x], argTypes := #[22, 22] })
    (H : Nat) (hs : a.eval s = .slice (some ⟨H, 0, none⟩) 0 0) (hown : w.ownsRow H 3 1 (.slice (some ⟨H, 0, none⟩) 0 0) 0 []) (hH : H < w.heap.size)
    (p : Option Addr) (l : List Int) (c n : Nat) (hn : n = l.length) (hx : a.eval x = .slice p n c) (hl : IntsAt w p l) (hle : l.length ≤ 1000)
    (h : ∀ g cn w', w'.ownsRow g 3 1 (.slice (some ⟨g, 0, none⟩) n cn) n (intVs l) → Ext w w' → (g = H ∨ g = w.heap.size) → g < w'.heap.size → wpList Try.prog ops Q rest (a.put o.dst (.slice (some ⟨g, 0, none⟩) n cn)) w') :
    wpList Try.prog ops Q (o :: rest) a w := by
  subst hn
  exact wpList_plain hgd fun _ hK => wp_row_of s x ho H hs hown hH p l c hx hl hle (fun g cn w' h1 h2 h3 h4 => hK _ _ (h g cn w' h1 h2 h3 h4))

/-- what is worn after k weeks -/
def pdAt (X : Wr) (l : List Wk) (k : Nat) : Pd := ⟨wornL X.recs.length (runTo X l k).worn, (runTo X l k).age⟩
def allTo (X : Wr) (l : List Wk) (n : Nat) : List Pd := (List.range n).map (pdAt X l)
theorem allTo_len (X : Wr) (l : List Wk) (n : Nat) : (allTo X l n).length = n := by simp [allTo]
theorem allTo_succ (X : Wr) (l : List Wk) (n : Nat) : allTo X l (n + 1) = allTo X l n ++ [pdAt X l n] := by simp [allTo, List.range_succ]

theorem one_pd (n : Int) (q : Option Addr) (a b : Nat) : ∀ u ∈ [Value.slice q a b, Value.int .i64 n], u.oneCell' = true := by
  intro u hu
  simp at hu
  rcases hu with rfl | rfl <;> rfl
theorem week_play (X : Wr) (l : List Wk) (k : Nat) : wornL X.recs.length (playF X ((wkAt l k).recs.foldl (repW X) (newW X (wkAt l k) (runTo X l k))).worn (newW X (wkAt l k) (runTo X l k)).age k) = wornL X.recs.length (runTo X l (k + 1)).worn ∧
    (newW X (wkAt l k) (runTo X l k)).age + sumWk X k X.recs.length = (runTo X l (k + 1)).age := by
  constructor
  · unfold wornL
    refine List.map_congr_left (fun i hi => ?_)
    have hi := List.mem_range.1 hi
    rw [runTo, weekW, worn_playsTo, if_pos hi, age_rep]
    rfl
  · rw [runTo, weekW, age_playsTo, age_rep]
theorem row_full {w : World} {B : Nat} {v : Value} {l : List Int} (h : w.ownsRow B 3 1 v l.length (intVs l)) : ∃ q c, v = .slice q l.length c ∧ IntsAt w q l ∧ ∀ a, q = some a → B ≤ a.block := by
  obtain ⟨q, c, hv, hi⟩ := ownsRow_ints h
  refine ⟨q, c, hv, hi, fun a ha => ?_⟩
  rcases h.2 with ⟨h0, -⟩ | ⟨g, cap, cur, h0, hb, -⟩
  · rw [h0] at hv; simp only [Value.slice.injEq] at hv; rw [← hv.1] at ha; cases ha
  · rw [h0] at hv; simp only [Value.slice.injEq] at hv; rw [← hv.1] at ha; cases ha; exact hb

set_option maxRecDepth 20000 in
set_option maxHeartbeats 16000000 in
theorem All03 (v : Value) (X : Wr) (pp : Option Addr) (l : List Wk) (pc : Nat) (w : World) (hv : WrV w v X) (hX : ValidW X) (hP : PlanOK X l) (h : WksAt w pp l) :
    Calls Try.prog 60 #[v, .slice pp l.length pc] w (fun e w' => ∃ g c, e = .returned (.slice (some ⟨g, 0, none⟩) (l.length + 1) c) ∧ Ext w w' ∧ PdsAt w' (some ⟨g, 0, none⟩) (allTo X l (l.length + 1))) := by
  have hl6 := (modestP hX hP).1
  have hx4 := hX.recs
  have HX := Lib.hid hX
  have HP := Lib.hid hP
  have hpl := h
  obtain ⟨p, cp, q, d, rfl, hR, hG⟩ := hv
  have HR := Lib.hid hR
  have HG := Lib.hid hG
  have HPL := Lib.hid hpl
  clear hX hP hR hG h hpl
  go_enter Try.func60, Try.ntmps60
  go_upto_region 1 with (fail)
  generalize hW : World.alloc _ _ = W
  have hb0 : W.heap[w.heap.size]? = some (.cells #[.int .i64 X.weeks, .int .i64 X.price, .int .i64 X.age, .int .i64 X.step, .slice p X.rough.length cp, .slice q X.recs.length d] 25) := by rw [← hW]; exact heap_new _ _
  have hE : Ext w W := by rw [← hW]; exact Ext.alloc (Ext.refl w) _
  have q2 : W.cell? ⟨w.heap.size, 2, none⟩ = some (.int .i64 X.age) := (cell_of_heap hb0 2).trans rfl
  have HB0 := Lib.hid hb0
  have HE := Lib.hid hE
  clear hW hb0 hE
  go_upto_region 2 with (fail)
  obtain ⟨b5, hb5⟩ : ∃ b5, b5 = W.heap.size := ⟨_, rfl⟩
  generalize hW1 : World.alloc _ _ = W1
  have hn1 : W1.heap[b5]? = some (.cells #[.slice none 0 0, .int .i64 X.age] 100) := by rw [← hW1, hb5]; exact heap_new _ _
  have hE1 : Ext W W1 := by rw [← hW1]; exact Ext.alloc (Ext.refl _) _
  have hs1 : b5 + 1 ≤ W1.heap.size := by rw [← hW1, size_alloc]; omega
  rw [← hb5]
  have HN1 := Lib.hid hn1
  have HE1 := Lib.hid hE1
  have HB5 := Lib.hid hb5
  clear hW1 hn1 hE1 hb5 q2
  go_wp2
  go_loopw [6] (fun i wr => ∃ (k : Nat) (v : Value), k ≤ X.recs.length ∧ i = .int .i64 k ∧ wr.heap[b5]? = some (.cells #[v, .int .i64 X.age] 100) ∧ wr.ownsRow (b5 + 1) 3 1 v k (intVs (wornL k (startW X).worn)) ∧ Ext W wr ∧ b5 + 1 ≤ wr.heap.size) (fun i _ => X.recs.length - (intOf i).toNat)
  case atStart => exact ⟨0, _, Nat.zero_le _, rfl, HN1.out, World.ownsRow_nil _ _ _ _, HE1.out, hs1⟩
  case round =>
    obtain ⟨k, v, hk, rfl, hb, ho, hEr, hsz⟩ := hrel
    have d5 : wr.cell? ⟨w.heap.size, 5, none⟩ = some (.slice q X.recs.length d) := (cell_of_heap (heap_extB HB0.out hEr) 5).trans rfl
    have e0 : wr.cell? ⟨b5, 0, none⟩ = some v := (cell_of_heap hb 0).trans rfl
    have HBR := Lib.hid hb
    have HO := Lib.hid ho
    have HER := Lib.hid hEr
    clear hb ho hEr HN1 HE1 hs1
    by_cases hlt : k < X.recs.length
    · obtain ⟨rb, ro, q', c', rfl, hr0, -⟩ := HG.out k hlt
      have hwn : X.recs[k].worn = (startW X).worn k := by show _ = (recW X k).worn; rw [recW_eq hlt]
      rw [hwn] at hr0
      obtain ⟨wn, hwnd⟩ : ∃ wn, wn = (startW X).worn k := ⟨_, rfl⟩
      rw [← hwnd] at hr0
      have d6 := (HE.out.trans HER.out).cell hr0
      have hltI : (k : Int) < (X.recs.length : Int) := by omega
      have hm1 : k + 1 ≤ maxLen := by unfold maxLen; omega
      have hm2 : (k + 1) * 8 ≤ 140737488355328 := by omega
      obtain ⟨i0, hi, hz0, hz1, hz2⟩ := info_parts info_a
      have HWN := Lib.hid hwnd
      have hSS : ∀ z, Ext wr z → z.cell? ⟨b5, 0, none⟩ = some v ∧ z.cell? ⟨w.heap.size, 5, none⟩ = some (.slice (some ⟨rb, ro, none⟩) X.recs.length d) ∧ z.cell? ⟨rb, ro + k * 4, none⟩ = some (.int .i64 wn) := fun z hz => ⟨hz.cell e0, hz.cell d5, hz.cell d6⟩
      have HSS := Lib.hid hSS
      clear hr0 hwn hwnd hSS e0 d6
      go_upto_region 5 with (fail)
      refine wp_region_heldT (fun z => z.cell? ⟨b5, 0, none⟩ = some v ∧ z.cell? ⟨w.heap.size, 5, none⟩ = some (.slice (some ⟨rb, ro, none⟩) X.recs.length d) ∧ z.cell? ⟨rb, ro + k * 4, none⟩ = some (.int .i64 wn)) 9
        [(true, 0), (true, 1), (true, 2), (true, 3), (true, 4), (true, 5), (true, 6), (true, 7), (false, 8)] (by kernel_rfl) (by kernel_rfl) (HSS.out _ (Ext.refl wr).drew) ?_
      simp only [List.map_cons, List.map_nil, List.getElem?_cons_zero, List.getElem?_cons_succ]
      obtain ⟨wd, hwd⟩ : ∃ wd, wd = wr.drew := ⟨_, rfl⟩
      have hEd : Ext wr wd := by rw [hwd]; exact (Ext.refl wr).drew
      rw [← hwd]
      have HED := Lib.hid hEd
      clear hwd hEd
      repeat (refine wpHL_take (v := ?_) (by rfl) ?_ (fun _ _ _ h => h) ?_; rotate_left 1; (intro z hz; (try dsimp only at hz); go_simp; (try with_reducible rfl)); simp only [Act.put, List.setIfInBounds_toArray, List.set_cons_zero, List.set_cons_succ])
      refine wpHL_step (fun K hK => ?_)
      go_simp
      refine hK.out _ _ (HSS.out _ (Ext.alloc HED.out _)) ?_
      clear hK K
      try simp only [Act.put, List.setIfInBounds_toArray, List.set_cons_zero, List.set_cons_succ]
      refine wpHL_nil ?_
      simp only [List.drop_succ_cons, List.drop_zero]
      have hszd : b5 + 1 ≤ wd.heap.size := Nat.le_trans hsz HED.out.size
      have hbd := heap_extB HBR.out (Ext.alloc HED.out (.cells #[.int .i64 wn] 3))
      have HBD := Lib.hid hbd
      have hown0 := ownsRow_ext HO.out (Ext.alloc HED.out (.cells #[.int .i64 wn] 3))
      have HOWN0 := Lib.hid hown0
      have hvb : ∀ b, v.ownBlock = some b → b5 + 1 ≤ b := fun b hb => (hown0.lt b hb).1
      have HVB := Lib.hid hvb
      clear hbd hown0 hvb
      go_wp2_with ((at_builtin; refine wpList_append_lies rfl (.tmp 21) (.tmp 28) 22 rfl (b5 + 1) 3 i0 (.int .i64 0) 1 8 Try.underlying22 hi hz0 hz1 hz2 rfl (by decide) v k (intVs (wornL k (startW X).worn)) rfl HOWN0.out ⟨_, 0, none⟩ 1 1 [.int .i64 wn] rfl rfl (hnewsE (Ext.refl _) rfl) (one_int _) (by decide) hm1 hm2 (by rw [size_alloc]; omega) ?_; intro g cap w1 hown hgr hat; have hb1 := (hgr.block b5 (Array.getElem?_eq_some_iff.1 HBD.out).1 (fun e => by have := HVB.out b5 e.symm; omega)).trans HBD.out; have hc1 : w1.cell? ⟨b5, 0, none⟩ = some v := (cell_of_heap hb1 0).trans rfl; have hf1 : w1.frozen? ⟨b5, 0, none⟩ = false := cell_frozen hb1 0; have HB1 := Lib.hid hb1; have HOWN := Lib.hid hown; have HGR := Lib.hid hgr; have HAT := Lib.hid hat; clear hown hgr hat hb1))
      have hb2 : (w1.setCell ⟨b5, 0, none⟩ (.slice (some ⟨g, 0, none⟩) (k + 1) cap)).heap[b5]? = some (.cells #[.slice (some ⟨g, 0, none⟩) (k + 1) cap, .int .i64 X.age] 100) := heap_set HB1.out rfl
      have hgB : b5 + 1 ≤ g := (HOWN.out.lt g rfl).1
      have ho2 := ownsRow_fr HOWN.out ((Fr.refl (fun i => i = b5) w1).set (o := 0) (u := .slice (some ⟨g, 0, none⟩) (k + 1) cap) rfl) (fun e he => by cases he; show ¬g = b5; omega)
      have hEx : Ext W w1 := Fr.ext (HER.out.trans (HED.out.trans (Ext.alloc (Ext.refl wd) (.cells #[.int .i64 wn] 3)))) (grown_fr HGR.out) (fun b e => by have := HVB.out b e; have := HB5.out; omega)
      have hE2 : Ext W (w1.setCell ⟨b5, 0, none⟩ (.slice (some ⟨g, 0, none⟩) (k + 1) cap)) := hEx.setCell (p := ⟨b5, 0, none⟩) (by have := HB5.out; show W.heap.size ≤ b5; omega) _
      have hs2 : b5 + 1 ≤ (w1.setCell ⟨b5, 0, none⟩ (.slice (some ⟨g, 0, none⟩) (k + 1) cap)).heap.size := (Array.getElem?_eq_some_iff.1 hb2).1
      have HB2 := Lib.hid hb2
      have HO2 := Lib.hid ho2
      have HE2 := Lib.hid hE2
      clear hb2 ho2 hEx hE2 hc1 hf1 HB1 HOWN HGR HAT HOWN0
      go_roundw
      case rel => exact ⟨k + 1, _, by omega, by go_num, HB2.out, by rw [wornL_succ, intVs_snoc, ← HWN.out]; exact HO2.out, HE2.out, hs2⟩
      case measure => simp [intOf]; omega
    · obtain rfl : k = X.recs.length := by omega
      have hwl0 := wornL_len X.recs.length (startW X).worn
      obtain ⟨qv, cv, hve, hvi, hvb⟩ := row_full (l := wornL X.recs.length (startW X).worn) (by rw [hwl0]; exact HO.out)
      rw [hwl0] at hve
      subst hve
      have e1 : wr.cell? ⟨b5, 1, none⟩ = some (.int .i64 X.age) := (cell_of_heap HBR.out 1).trans rfl
      have HVI := Lib.hid hvi
      have HVB := Lib.hid hvb
      have HWL := Lib.hid (fun f : Nat → Int => wornL_len X.recs.length f)
      clear hwl0 hvi hvb HO
      go_upto_region 7 with (fail)
      obtain ⟨b7, hb7⟩ : ∃ b7, b7 = wr.heap.size := ⟨_, rfl⟩
      obtain ⟨W2, hW2⟩ : ∃ W2, W2 = wr.alloc (.cells #[.slice qv X.recs.length cv, .int .i64 X.age] 100) := ⟨_, rfl⟩
      have hn2 : W2.heap[b7]? = some (.cells #[.slice qv X.recs.length cv, .int .i64 X.age] 100) := by rw [hW2, hb7]; exact heap_new _ _
      have hE2 : Ext wr W2 := by rw [hW2]; exact Ext.alloc (Ext.refl _) _
      rw [← hW2, ← hb7]
      have hbb : W2.heap[b5]? = some (.cells #[.slice qv X.recs.length cv, .int .i64 X.age] 100) := heap_extB HBR.out hE2
      have hro : W2.ownsRow (b5 + 1) 100 2 (.slice (some ⟨b7, 0, none⟩) 1 1) 1 [.slice qv X.recs.length cv, .int .i64 X.age] :=
        ⟨rfl, Or.inr ⟨b7, 1, #[.slice qv X.recs.length cv, .int .i64 X.age], rfl, by omega, hn2, Nat.le_refl _, by unfold maxLen; omega, by simp, by simp⟩⟩
      have hpd : PdR (b5 + 1) W2 (some b7) [.slice qv X.recs.length cv, .int .i64 X.age] (allTo X l 1) := by
        intro i hi
        obtain rfl : i = 0 := by rw [allTo_len] at hi; omega
        have e : (allTo X l 1)[0]'hi = pdAt X l 0 := by simp [allTo]
        rw [e]
        refine ⟨qv, cv, by simp [pdAt, HWL.out], by simp [pdAt, runTo, startW], ?_, HVB.out, fun a ha hne e2 => ?_⟩
        · exact HVI.out.ext hE2
        · have h1 := ints_lt HVI.out a ha hne
          have h2 : b7 = a.block := Option.some.inj e2
          omega
      have hE2w := HER.out.trans hE2
      have HRO := Lib.hid hro
      have HPD := Lib.hid hpd
      have HBB := Lib.hid hbb
      have HV2 := Lib.hid (HVI.out.ext hE2)
      have HE2w := Lib.hid hE2w
      clear hW2 hb7 hn2 hE2 hro hpd hbb hE2w HER HBR HVI e0 e1 d5
      go_wp2
      go_loopw [7, 8] (fun uv i wr => ∃ (k : Nat) (xs : List Value) (qn : Option Addr) (cn : Nat), k ≤ l.length ∧ i = .int .i64 k ∧ wr.ownsRow (b5 + 1) 100 2 uv (k + 1) xs ∧ PdR (b5 + 1) wr uv.ownBlock xs (allTo X l (k + 1)) ∧
        wr.heap[b5]? = some (.cells #[.slice qn X.recs.length cn, .int .i64 (runTo X l k).age] 100) ∧ IntsAt wr qn (wornL X.recs.length (runTo X l k).worn) ∧ (∀ a, qn = some a → b5 + 1 ≤ a.block) ∧ Ext W wr) (fun _ i _ => l.length - (intOf i).toNat)
      case atStart => exact ⟨0, _, qv, cv, Nat.zero_le _, rfl, HRO.out, HPD.out, HBB.out, HV2.out, HVB.out, HE2w.out⟩
      case round =>
        obtain ⟨k, xs, qn, cn, hk, rfl, hro, hpd, hb, hvi, hvb, hEr⟩ := hrel
        have HVN := Lib.hid hvb
        have HRO := Lib.hid hro
        have HPD := Lib.hid hpd
        have HBR := Lib.hid hb
        have HVI := Lib.hid hvi
        have HER := Lib.hid hEr
        clear hro hpd hb hvi hvb hEr HBB HV2 HE2w
        by_cases hklt : k < l.length
        · obtain ⟨pb, po, qq, qc, rfl, h1, h2, h3⟩ := HPL.out k hklt
          rw [← wkAt_eq hklt] at h1 h2 h3
          have hsm := wk_small HX.out HP.out k
          obtain ⟨wk, hwk⟩ : ∃ wk, wk = wkAt l k := ⟨_, rfl⟩
          rw [← hwk] at h1 h2 h3 hsm
          have hEw := HE.out.trans HER.out
          have r1 := hEw.cell h1
          have e0 : wr.cell? ⟨b5, 0, none⟩ = some (.slice qn X.recs.length cn) := (cell_of_heap HBR.out 0).trans rfl
          have e1 : wr.cell? ⟨b5, 1, none⟩ = some (.int .i64 (runTo X l k).age) := (cell_of_heap HBR.out 1).trans rfl
          have ef : wr.frozen? ⟨b5, 1, none⟩ = false := cell_frozen HBR.out 1
          have hklI : (k : Int) < (l.length : Int) := by omega
          have hbW : W.heap.size ≤ b5 := by have := HB5.out; omega
          obtain ⟨s1, hs1⟩ : ∃ s1, s1 = newW X wk (runTo X l k) := ⟨_, rfl⟩
          have hs1w : s1.worn = (runTo X l k).worn := by rw [hs1]; exact newW_worn _ _ _
          have hs1o := new_ok HX.out wk (runTo_ok HX.out HP.out k hk)
          rw [← hs1] at hs1o
          have HS1 := Lib.hid hs1
          have HS1W := Lib.hid hs1w
          have HS1O := Lib.hid hs1o
          have HWK := Lib.hid hwk
          have H2 := Lib.hid h2
          have H3 := Lib.hid h3
          have HSM := Lib.hid hsm
          have hrl6 := hsm.2.2.1
          have hwl := HWL.out (runTo X l k).worn
          have HWL1 := Lib.hid hwl
          clear h1 h2 h3 hwk hsm hs1 hs1w hs1o hwl hEw
          by_cases hnd : wk.needle = 1
          case' pos =>
            have ha1 : s1.age = 0 := by rw [HS1.out]; unfold newW; rw [if_pos hnd]
            have hF6 : Fr (fun i => i = b5) wr (wr.setCell ⟨b5, 1, none⟩ (.int .i64 0)) := (Fr.refl _ _).set rfl
            have hb6 : (wr.setCell ⟨b5, 1, none⟩ (.int .i64 0)).heap[b5]? = some (.cells #[.slice qn X.recs.length cn, .int .i64 s1.age] 100) := by rw [ha1]; exact heap_set HBR.out rfl
            have HF6 := Lib.hid hF6
            have HB6 := Lib.hid hb6
            rw [hnd] at r1
            clear ha1 hF6 hb6
            go_upto_region 12 with (fail)
            generalize hW6 : World.setCell _ _ _ = W6
            rw [hW6] at HF6 HB6
            clear hW6
          case' neg =>
            have ha1 : s1.age = (runTo X l k).age := by rw [HS1.out]; unfold newW; rw [if_neg hnd]
            have hF6 : Fr (fun i => i = b5) wr wr := Fr.refl _ _
            have hb6 : wr.heap[b5]? = some (.cells #[.slice qn X.recs.length cn, .int .i64 s1.age] 100) := by rw [ha1]; exact HBR.out
            have HF6 := Lib.hid hF6
            have HB6 := Lib.hid hb6
            have hnb : (wk.needle == 1) = false := by simpa using hnd
            clear ha1 hF6 hb6
            go_upto_region 12 with (fail)
            clear hnb
            obtain ⟨W6, hW6⟩ : ∃ W6, W6 = wr := ⟨_, rfl⟩
            rw [← hW6] at HB6 ⊢
            have HF6 : Hid (Fr (fun i => i = b5) wr W6) := by rw [hW6]; exact HF6
            clear hW6
          all_goals
            have hE6 : Ext W W6 := Fr.ext HER.out HF6.out (fun i hi => by have e : i = b5 := hi; omega)
            have hro6 := ownsRow_fr HRO.out HF6.out (fun b hb e => by have := (HRO.out.lt b hb).1; have e2 : b = b5 := e; omega)
            have hpd6 := HPD.out.fr HF6.out (fun b hb e => by have e2 : b = b5 := e; omega)
            have hvi6 := HVI.out.fr HF6.out (fun a ha hne e => by have := HVN.out a ha; have e2 : a.block = b5 := e; omega)
            have hb5l : b5 < W6.heap.size := (Array.getElem?_eq_some_iff.1 HB6.out).1
            have c0 : W6.cell? ⟨b5, 0, none⟩ = some (.slice qn X.recs.length cn) := (cell_of_heap HB6.out 0).trans rfl
            have HE6 := Lib.hid hE6
            have HRO6 := Lib.hid hro6
            have HPD6 := Lib.hid hpd6
            have HVI6 := Lib.hid hvi6
            clear hE6 hro6 hpd6 hvi6 HRO HPD HVI HER HBR HF6 HVN
            go_upto_region 13 with ((at_builtin; refine wpList_row_of rfl (.tmp 46) (.tmp 48) rfl W6.heap.size rfl (World.ownsRow_made W6 #[] 0 (Nat.le_refl _) (by decide) rfl) (by rw [size_alloc]; omega) qn (wornL X.recs.length (runTo X l k).worn) cn X.recs.length HWL1.out.symm rfl (HVI6.out.ext (Ext.alloc (Ext.refl _) _)) (by rw [HWL1.out]; omega) ?_; intro g2 c2 w7 hown hE7 hat hlt7; have HB7 := Lib.hid (heap_extB HB6.out (Ext.trans (Ext.alloc (Ext.refl _) _) hE7)); have hc7 : w7.cell? ⟨b5, 0, none⟩ = some (.slice qn X.recs.length cn) := (cell_of_heap HB7.out 0).trans rfl; have hf7 : w7.frozen? ⟨b5, 0, none⟩ = false := cell_frozen HB7.out 0; have HOWN := Lib.hid hown; have HE7 := Lib.hid (Ext.trans (Ext.alloc (Ext.refl W6) (.cells #[] 3)) hE7); have HAT := Lib.hid hat; clear hown hE7 hat))
            have hg2 : W6.heap.size ≤ g2 := by rcases HAT.out with e | e <;> (try simp only [size_alloc] at e) <;> omega
            have hF8 : Fr (fun i => i = b5) w7 (w7.setCell ⟨b5, 0, none⟩ (.slice (some ⟨g2, 0, none⟩) X.recs.length c2)) := (Fr.refl _ _).set rfl
            have hb8 : (w7.setCell ⟨b5, 0, none⟩ (.slice (some ⟨g2, 0, none⟩) X.recs.length c2)).heap[b5]? = some (.cells #[.slice (some ⟨g2, 0, none⟩) X.recs.length c2, .int .i64 s1.age] 100) := heap_set HB7.out rfl
            have ho8 := ownsRow_fr HOWN.out hF8 (fun e he => by cases he; show ¬g2 = b5; omega)
            have hF68 := (HE7.out.fr (fun i => i = b5)).trans hF8
            have hE8 : Ext W (w7.setCell ⟨b5, 0, none⟩ (.slice (some ⟨g2, 0, none⟩) X.recs.length c2)) := (HE6.out.trans HE7.out).setCell (p := ⟨b5, 0, none⟩) hbW _
            obtain ⟨W8, hW8⟩ : ∃ W8, W8 = w7.setCell ⟨b5, 0, none⟩ (.slice (some ⟨g2, 0, none⟩) X.recs.length c2) := ⟨_, rfl⟩
            rw [← hW8] at hb8 ho8 hF68 hE8 ⊢
            have HF68 := Lib.hid hF68
            have HB8 := Lib.hid hb8
            have HO8 := Lib.hid ho8
            have HE8 := Lib.hid hE8
            clear hF8 hb8 ho8 hF68 hE8 hW8 hc7 hf7 c0 HB7 HOWN HE7 HAT HVI6 HE6 HB6
            go_wp2
            go_loopw [9] (fun i wr => ∃ j : Nat, j ≤ wk.recs.length ∧ i = .int .i64 j ∧ wr.ownsRow g2 3 1 (.slice (some ⟨g2, 0, none⟩) X.recs.length c2) X.recs.length (intVs (wornL X.recs.length ((wk.recs.take j).foldl (repW X) s1).worn)) ∧ Fr (fun i => i = g2) W8 wr) (fun i _ => wk.recs.length - (intOf i).toNat)
            case atStart => exact ⟨0, Nat.zero_le _, rfl, by rw [List.take_zero, List.foldl_nil, HS1W.out]; exact HO8.out, Fr.refl _ _⟩
            case round =>
              obtain ⟨j, hj, rfl, ho, hF⟩ := hrel
              have hg2b : g2 ≠ b5 := by omega
              have hbr : wr.heap[b5]? = _ := (hF.block b5 (by have := (Array.getElem?_eq_some_iff.1 HB8.out).1; exact this) (fun e => hg2b e.symm)).trans HB8.out
              have hEr : Ext W wr := Fr.ext HE8.out hF (fun i hi => by have e : i = g2 := hi; have := HB5.out; omega)
              have hEwr := HE.out.trans hEr
              have r2 := hEwr.cell H2.out
              have e0 : wr.cell? ⟨b5, 0, none⟩ = some (.slice (some ⟨g2, 0, none⟩) X.recs.length c2) := (cell_of_heap hbr 0).trans rfl
              have e1 : wr.cell? ⟨b5, 1, none⟩ = some (.int .i64 s1.age) := (cell_of_heap hbr 1).trans rfl
              have HO := Lib.hid ho
              have HF := Lib.hid hF
              have HBR := Lib.hid hbr
              have HER := Lib.hid hEr
              by_cases hjl : j < wk.recs.length
              · obtain ⟨bi, oi, rfl, hci⟩ := H3.out.at j hjl
                have hb3 := HSM.out.2.2.2 _ (List.getElem_mem hjl)
                obtain ⟨ri, hri⟩ : ∃ ri : Nat, wk.recs[j] = ri := ⟨(wk.recs[j]).toNat, by omega⟩
                have hsn : ((wk.recs.take (j + 1)).foldl (repW X) s1).worn = updI ((wk.recs.take j).foldl (repW X) s1).worn ri 0 := by
                  rw [List.take_succ_eq_append_getElem hjl, List.foldl_append, hri]
                  show updI _ ((ri : Int).toNat) 0 = _
                  rw [Int.toNat_natCast]
                rw [hri] at hci hb3
                have r3 := hEwr.cell hci
                obtain ⟨hril0, hril⟩ := hb3
                have hril' : ri < X.recs.length := by omega
                have hjI : (j : Int) < (wk.recs.length : Int) := by omega
                obtain ⟨g', cg', heg, hgc⟩ := ownsRow_at HO.out ri hril'
                cases heg
                rw [wornL_get _ _ _ hril'] at hgc
                have hgf := ownsRow_frozen (i := ri) HO.out
                have HSN := Lib.hid hsn
                clear hsn hri hci hEwr hEr hbr hF ho
                go_upto_region 16 with (fail)
                go_still_tail 11, (by kernel_rfl)
                change wpList _ _ _ _ _ wr.drew
                obtain ⟨wd, hwd⟩ : ∃ wd, wd = wr.drew := ⟨_, rfl⟩
                have hEd : Ext wr wd := by rw [hwd]; exact (Ext.refl wr).drew
                have g1 := hEd.cell hgc
                have g2f : wd.frozen? ⟨g2, ri, none⟩ = false := by rw [hwd]; exact hgf
                have hod := ownsRow_setV (i := ri) (u := .int .i64 0) (ownsRow_ext HO.out hEd)
                rw [wornL_set] at hod
                have hFd : Fr (fun i => i = g2) W8 (wd.setCell ⟨g2, ri, none⟩ (.int .i64 0)) := (HF.out.trans (hEd.fr _)).set rfl
                have HOD := Lib.hid hod
                have HFD := Lib.hid hFd
                rw [← hwd]
                clear hwd hEd hod hFd hgc hgf e0 e1 r1 r2 r3
                go_wp2
                go_roundw
                case rel => exact ⟨j + 1, by omega, by go_num, by rw [HSN.out]; exact HOD.out, HFD.out⟩
                case measure => simp [intOf]; omega
              · obtain rfl : j = wk.recs.length := by omega
                rw [List.take_length] at HO
                obtain ⟨s2, hs2⟩ : ∃ s2, s2 = wk.recs.foldl (repW X) s1 := ⟨_, rfl⟩
                rw [← hs2] at HO
                have hs2o := reps_ok HX.out wk.recs HS1O.out
                rw [← hs2] at hs2o
                have hsb : ∀ j, 0 ≤ s2.worn j ∧ s2.worn j ≤ 1000000 := fun j => by have := hs2o.worn j; omega
                have hab : 0 ≤ s1.age ∧ s1.age ≤ 100000 := by have := HS1O.out.age; omega
                have hwl2 := HWL.out s2.worn
                have hvp : WrV wr (.agg #[.int .i64 X.weeks, .int .i64 X.price, .int .i64 X.age, .int .i64 X.step, .slice p X.rough.length cp, .slice q X.recs.length d]) X := ⟨_, _, _, _, rfl, HR.out.ext hEwr, HG.out.ext hEwr⟩
                have hint : IntsAt wr (some ⟨g2, 0, none⟩) (wornL X.recs.length s2.worn) := row_ints (l := wornL X.recs.length s2.worn) (c := c2) (B := g2) (by rw [hwl2]; exact HO.out)
                have hkw : (k : Int) < X.weeks := by have := HP.out.1; omega
                have HPY := Lib.hid (playR03 _ X s2.worn s1.age (some ⟨g2, 0, none⟩) c2 k wr hvp HX.out hkw hsb hab hint)
                have hwk0 := heap_extB HB0.out hEr
                have y0 : wr.cell? ⟨w.heap.size, 0, none⟩ = some (.int .i64 X.weeks) := (cell_of_heap hwk0 0).trans rfl
                have y1 : wr.cell? ⟨w.heap.size, 1, none⟩ = some (.int .i64 X.price) := (cell_of_heap hwk0 1).trans rfl
                have y2 : wr.cell? ⟨w.heap.size, 2, none⟩ = some (.int .i64 X.age) := (cell_of_heap hwk0 2).trans rfl
                have y3 : wr.cell? ⟨w.heap.size, 3, none⟩ = some (.int .i64 X.step) := (cell_of_heap hwk0 3).trans rfl
                have y4 : wr.cell? ⟨w.heap.size, 4, none⟩ = some (.slice p X.rough.length cp) := (cell_of_heap hwk0 4).trans rfl
                have y5 : wr.cell? ⟨w.heap.size, 5, none⟩ = some (.slice q X.recs.length d) := (cell_of_heap hwk0 5).trans rfl
                have hwp := week_play X l k
                rw [← HWK.out, ← HS1.out, ← hs2] at hwp
                have HWP := Lib.hid hwp
                have hF6r : Fr (fun i => i = b5) W6 wr := Fr.low ((HF68.out.mono (fun i e => Or.inl e)).trans (HF.out.mono (fun i e => Or.inr (by have e2 : i = g2 := e; omega))))
                have hro9 := ownsRow_fr HRO6.out hF6r (fun b hb e => by have := (HRO6.out.lt b hb).1; have e2 : b = b5 := e; omega)
                have hpd9 := HPD6.out.fr hF6r (fun b hb e => by have e2 : b = b5 := e; omega)
                have HRO9 := Lib.hid hro9
                have HPD9 := Lib.hid hpd9
                have hszr : b5 < wr.heap.size := (Array.getElem?_eq_some_iff.1 HBR.out).1
                clear hF6r hro9 hpd9 hwp hint hvp hsb hab hs2o hwk0 hs2 hEwr hbr hEr hF ho HO HF HRO6 HPD6 HF68
                go_upto_region 18 with (go_at_call 90; refine HPY.out.mono ?_; rintro e W9 ⟨g3, c3, rfl, hE9, hg3, hi9⟩; have HB9 := Lib.hid (heap_extB HBR.out hE9); have hc0 : W9.cell? ⟨b5, 0, none⟩ = some (.slice (some ⟨g2, 0, none⟩) X.recs.length c2) := (cell_of_heap HB9.out 0).trans rfl; have hc1 : W9.cell? ⟨b5, 1, none⟩ = some (.int .i64 s1.age) := (cell_of_heap HB9.out 1).trans rfl; have hf0 : W9.frozen? ⟨b5, 0, none⟩ = false := cell_frozen HB9.out 0; have hf1 : W9.frozen? ⟨b5, 1, none⟩ = false := cell_frozen HB9.out 1; have HE9 := Lib.hid hE9; have HI9 := Lib.hid hi9; clear hE9 hi9)
                rw [HWP.out.2]
                generalize hW10 : World.setCell _ _ _ = W10
                have hF10 : Fr (fun i => i = b5) W9 W10 := by rw [← hW10]; exact ((Fr.refl (fun i => i = b5) W9).set rfl).set rfl
                have hb10 : W10.heap[b5]? = some (.cells #[.slice (some ⟨g3, 0, none⟩) X.recs.length c3, .int .i64 (runTo X l (k + 1)).age] 100) := by rw [← hW10]; exact heap_set2 HB9.out
                have hi10 := HI9.out.fr hF10 (fun a ha hne e => by cases ha; have e2 : g3 = b5 := e; omega)
                rw [HWP.out.1] at hi10
                have hro10 := ownsRow_fr (ownsRow_ext HRO9.out HE9.out) hF10 (fun b hb e => by have := (HRO9.out.lt b hb).1; have e2 : b = b5 := e; omega)
                have hpd10 := (HPD9.out.fr (HE9.out.fr (fun _ => False)) (fun _ _ e => e.elim)).fr hF10 (fun b hb e => by have e2 : b = b5 := e; omega)
                have hE10 : Ext W W10 := Fr.ext (HER.out.trans HE9.out) hF10 (fun i hi => by have e : i = b5 := hi; omega)
                have hur : ∀ b, u7.ownBlock = some b → b < wr.heap.size := fun b hb => (HRO9.out.lt b hb).2
                obtain ⟨i1, hi1, hy0, hy1, hy2⟩ := info_parts info_pd
                have hb10s : b5 < W10.heap.size := (Array.getElem?_eq_some_iff.1 hb10).1
                have c0 : W10.cell? ⟨b5, 0, none⟩ = some (.slice (some ⟨g3, 0, none⟩) X.recs.length c3) := (cell_of_heap hb10 0).trans rfl
                have c1 : W10.cell? ⟨b5, 1, none⟩ = some (.int .i64 (runTo X l (k + 1)).age) := (cell_of_heap hb10 1).trans rfl
                have hm1 : k + 1 + 1 ≤ maxLen := by unfold maxLen; omega
                have hm2 : (k + 1 + 1) * 32 ≤ 140737488355328 := by omega
                have HB10 := Lib.hid hb10
                have HI10 := Lib.hid hi10
                have HRO10 := Lib.hid hro10
                have HPD10 := Lib.hid hpd10
                have HE10 := Lib.hid hE10
                have HUR := Lib.hid hur
                clear hW10 hF10 hb10 hi10 hro10 hpd10 hE10 hur HB9 hc0 hc1 hf0 hf1 HE9 HI9 HPY y0 y1 y2 y3 y4 y5 e0 e1 HBR HER HRO9 HPD9 HO8 HB8 HE8
                go_wp2_with ((at_builtin; refine wpList_append_lies rfl (.tmp 76) (.tmp 78) 97 rfl (b5 + 1) 100 i1 (.agg #[.slice none 0 0, .int .i64 0]) 2 32 Try.underlying97 hi1 hy0 hy1 hy2 rfl (by decide) _ (k + 1) xs rfl (ownsRow_ext HRO10.out (Ext.alloc (Ext.refl _) _)) ⟨_, 0, none⟩ 1 1 [.slice (some ⟨g3, 0, none⟩) X.recs.length c3, .int .i64 (runTo X l (k + 1)).age] rfl rfl (hnews2 (Ext.refl _) rfl) (one_pd _ _ _ _) (by decide) hm1 hm2 (by rw [size_alloc]; omega) ?_; intro g9 cap9 w1 hown hgr hat; have HOWN := Lib.hid hown; have HGR := Lib.hid hgr; have HAT := Lib.hid hat; clear hown hgr hat))
                have hub : ∀ b, u7.ownBlock = some b → b5 + 1 ≤ b ∧ b < wr.heap.size := fun b hb => ⟨(HRO10.out.lt b hb).1, HUR.out b hb⟩
                have hEa := Ext.alloc (Ext.refl W10) (.cells #[.slice (some ⟨g3, 0, none⟩) X.recs.length c3, .int .i64 (runTo X l (k + 1)).age] 100)
                have hla := HWL.out (runTo X l (k + 1)).worn
                have hst := PdR.step (x := pdAt X l (k + 1)) (mp := some ⟨g3, 0, none⟩) (mc := c3) (HPD10.out.fr (hEa.fr (fun _ => False)) (fun _ _ e => e.elim)) (by rw [allTo_len]; exact HRO10.out.1) HGR.out HAT.out (HI10.out.ext hEa) (fun a ha => by cases ha; show b5 + 1 ≤ g3; omega) (fun a ha _ e => by cases ha; have := (hub g3 e).2; omega)
                rw [← allTo_succ] at hst
                have hst' : PdR (b5 + 1) w1 (some g9) (xs ++ [.slice (some ⟨g3, 0, none⟩) X.recs.length c3, .int .i64 (runTo X l (k + 1)).age]) (allTo X l (k + 1 + 1)) := by
                  have e : (pdAt X l (k + 1)).worn.length = X.recs.length := hla
                  rw [e] at hst
                  exact hst
                have hb1 := (HGR.out.block b5 (by have := (Array.getElem?_eq_some_iff.1 (heap_extB HB10.out hEa)).1; exact this) (fun e => by have := (hub b5 e.symm).1; omega)).trans (heap_extB HB10.out hEa)
                have hi1' := (HI10.out.ext hEa).fr (grown_fr HGR.out) (fun a ha _ e => by cases ha; have := (hub g3 e).2; omega)
                have hE1' : Ext W w1 := Fr.ext (HE10.out.trans hEa) (grown_fr HGR.out) (fun b e => by have := (hub b e).1; omega)
                have HST := Lib.hid hst'
                have HB1 := Lib.hid hb1
                have HI1 := Lib.hid hi1'
                have HE1 := Lib.hid hE1'
                clear hub hEa hla hst hst' hb1 hi1' hE1' hi1 hy0 hy1 hy2 c0 c1 HB10 HI10 HRO10 HPD10 HE10 HUR HGR HAT
                go_roundw
                case rel => exact ⟨k + 1, _, some ⟨g3, 0, none⟩, c3, by omega, by go_num, HOWN.out, HST.out, HB1.out, HI1.out, (fun a ha => by cases ha; show b5 + 1 ≤ g3; omega), HE1.out⟩
                case measure => simp [intOf]; omega
        · obtain rfl : k = l.length := by omega
          go_wp2
          go_ret
          obtain ⟨g, c, hu, hpa⟩ := HPD.out.out (by rw [allTo_len]; exact HRO.out) (by intro e; have := allTo_len X l (l.length + 1); rw [e] at this; simp at this)
          rw [allTo_len] at hu
          exact ⟨g, c, by rw [hu]; rfl, HE.out.trans HER.out, hpa⟩
end Go.Proofs.Ytkcilgjkdiopnaa
