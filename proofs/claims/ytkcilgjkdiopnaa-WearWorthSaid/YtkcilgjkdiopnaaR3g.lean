/- The walk of the reference's grinds. -/
import Derived.Test.YtkcilgjkdiopnaaR3f
import Derived.Deep.OwnRows
namespace Go.Proofs.Ytkcilgjkdiopnaa
open Go.RowKit

/-- by how much each record is worn in week k -/
def grRow (X : Wr) (N k : Nat) : List Int := wornL X.recs.length (fun i => grd X N k i)
def grL (X : Wr) (N n : Nat) : List (List Int) := (List.range n).map (grRow X N)
theorem grL_len (X : Wr) (N n : Nat) : (grL X N n).length = n := by simp [grL]
theorem grL_succ (X : Wr) (N n : Nat) : grL X N (n + 1) = grL X N n ++ [grRow X N n] := by simp [grL, List.range_succ]
theorem play_zero (X : Wr) (N k : Nat) : playF X (fun _ => 0) (begA X N k) k = fun i => grd X N k i := by
  funext i
  unfold playF grd
  rw [ageTo_sum]
  simp
theorem next_age (X : Wr) (N k : Nat) : begA X N k + sumWk X k X.recs.length = ageB X N (k + 1) := by
  rw [ageB, ageTo_sum]
  rfl
/-- rows in cells, each elsewhere than block r -/
def LsR (M : Nat) (W : World) (r : Option Nat) (xs : List Value) (l : List (List Int)) : Prop :=
  ∀ i (h : i < l.length), ∃ q c, xs[i]? = some (.slice q l[i].length c) ∧ IntsAt W q l[i] ∧ (∀ a, q = some a → M ≤ a.block) ∧ ∀ a, q = some a → l[i] ≠ [] → r ≠ some a.block
theorem LsR.fr {M : Nat} {W W' : World} {r : Option Nat} {xs : List Value} {l : List (List Int)} {E : Nat → Prop} (h : LsR M W r xs l) (hF : Fr E W W') (hE : ∀ k, M ≤ k → E k → r = some k) : LsR M W' r xs l := by
  intro i hi
  obtain ⟨q, c, h1, h3, h4, h5⟩ := h i hi
  exact ⟨q, c, h1, h3.fr hF (fun a ha hne he => h5 a ha hne (hE _ (h4 a ha) he)), h4, h5⟩
theorem LsR.ext {M : Nat} {W W' : World} {r : Option Nat} {xs : List Value} {l : List (List Int)} (h : LsR M W r xs l) (hE : Ext W W') : LsR M W' r xs l := h.fr (hE.fr (fun _ => False)) (fun _ _ e => e.elim)
theorem LsR.step {M : Nat} {W W' : World} {r : Option Nat} {xs : List Value} {l : List (List Int)} {g : Nat} {x : List Int} {mp : Option Addr} {mc : Nat} (h : LsR M W r xs l) (hxs : xs.length = l.length) (hg : W.grownBy W' r) (hat : r = some g ∨ g = W.heap.size)
    (hma : IntsAt W mp x) (hmb : ∀ a, mp = some a → M ≤ a.block) (hmr : ∀ a, mp = some a → x ≠ [] → r ≠ some a.block) : LsR M W' (some g) (xs ++ [.slice mp x.length mc]) (l ++ [x]) := by
  have keep : ∀ (q : Option Addr) (rs : List Int), IntsAt W q rs → (∀ a, q = some a → rs ≠ [] → r ≠ some a.block) → IntsAt W' q rs ∧ ∀ a, q = some a → rs ≠ [] → some g ≠ some a.block := by
    intro q rs hq hr
    refine ⟨fun i hi => ?_, fun a ha hne e => ?_⟩
    · obtain ⟨b, o, v, hp, hc, hv⟩ := hq i hi
      exact ⟨b, o, v, hp, hg.cell hc (fun e => hr _ hp (by intro h0; rw [h0] at hi; simp at hi) e.symm), hv⟩
    · rcases hat with h1 | h1
      · exact hr a ha hne (h1.trans e)
      · have := ints_lt hq a ha hne
        have e2 : g = a.block := Option.some.inj e
        omega
  intro i hi
  rw [List.length_append, List.length_singleton] at hi
  by_cases e : i < l.length
  · obtain ⟨q, c, h1, h3, h4, h5⟩ := h i e
    obtain ⟨k1, k2⟩ := keep q _ h3 h5
    rw [List.getElem_append_left e]
    exact ⟨q, c, by rw [List.getElem?_append_left (by omega)]; exact h1, k1, h4, k2⟩
  · obtain rfl : i = l.length := by omega
    obtain ⟨k1, k2⟩ := keep mp _ hma hmr
    have hx : (l ++ [x])[l.length]'(by simp) = x := by simp
    rw [hx]
    refine ⟨mp, mc, ?_, k1, hmb, k2⟩
    rw [List.getElem?_append_right (by omega), hxs]; simp
theorem LsR.out {M B : Nat} {W : World} {u : Value} {xs : List Value} {l : List (List Int)} (h : LsR M W u.ownBlock xs l) (ho : W.ownsRow B 22 1 u l.length xs) : ∃ p c, u = .slice p l.length c ∧ ListsAt W p l := by
  have key : ∀ p c, u = .slice p l.length c → ListsAt W p l := by
    intro p c hv i hi
    obtain ⟨b, c1, he, k0⟩ := ownsRow_at ho i hi
    obtain ⟨qi, ci, m0, m2, -, -⟩ := h i hi
    rw [hv] at he
    cases he
    exact ⟨b, 0, _, rfl, by rw [Nat.zero_add, k0, m0], qi, ci, rfl, m2⟩
  rcases ho.2 with ⟨hv, h0⟩ | ⟨g, cap, cur, hv, -⟩
  · exact ⟨none, 0, by rw [hv, h0], key none 0 (by rw [hv, h0])⟩
  · exact ⟨_, cap, hv, key _ cap hv⟩
theorem one_slice (q : Option Addr) (a b : Nat) : ∀ u ∈ [Value.slice q a b], u.oneCell' = true := by
  intro u hu; simp at hu; subst hu; rfl

/-- a list of zeros that was made -/
def MadeZ (n : Nat) (v : Value) (lo hi : Nat) (w : World) : Prop := v = .slice (some ⟨lo, 0, none⟩) n n ∧ lo < hi ∧ IntsAt w (some ⟨lo, 0, none⟩) (wornL n (fun _ => 0))
theorem MadeZ.mono {n : Nat} : ∀ v s t w w', Ext w w' → MadeZ n v s t w → MadeZ n v s t w' := fun _ _ _ _ _ hE ⟨h1, h2, h3⟩ => ⟨h1, h2, h3.ext hE⟩
def AggZ (n : Nat) (a : Int) (v : Value) (_ _ : Nat) (w : World) : Prop := ∃ g c, v = .agg #[.slice (some ⟨g, 0, none⟩) n c, .int .i64 a] ∧ IntsAt w (some ⟨g, 0, none⟩) (wornL n (fun _ => 0))
theorem AggZ.mono {n : Nat} {a : Int} : ∀ v s t w w', Ext w w' → AggZ n a v s t w → AggZ n a v s t w' := fun _ _ _ _ _ hE ⟨g, c, h1, h3⟩ => ⟨g, c, h1, h3.ext hE⟩
def PlayZ (B n : Nat) (a : Int) (l : List Int) (v : Value) (_ _ : Nat) (w : World) : Prop := ∃ g c, v = .agg #[.slice (some ⟨g, 0, none⟩) n c, .int .i64 a] ∧ B ≤ g ∧ IntsAt w (some ⟨g, 0, none⟩) l
theorem PlayZ.mono {B n : Nat} {a : Int} {l : List Int} : ∀ v s t w w', Ext w w' → PlayZ B n a l v s t w → PlayZ B n a l v s t w' := fun _ _ _ _ _ hE ⟨g, c, h1, h2, h3⟩ => ⟨g, c, h1, h2, h3.ext hE⟩
theorem zeros_at (w : World) (n : Nat) : IntsAt (w.alloc (.cells (madeCells #[.int .i64 0] n) 3)) (some ⟨w.heap.size, 0, none⟩) (wornL n (fun _ => 0)) := by
  refine IntsAt.cells _ ?_ (t := 3) (f := (0, 0))
  rw [heap_new, madeCells_eq]
  have e : List.replicate n (Value.int .i64 0) = (wornL n (fun _ => 0)).map (Value.int .i64) := by
    apply List.ext_getElem
    · simp [wornL]
    · intro i h1 h2; simp [wornL]
  rw [e]
set_option maxRecDepth 20000 in
set_option maxHeartbeats 16000000 in
theorem grindsR03 (v : Value) (X : Wr) (N : Nat) (w : World) (hv : WrV w v X) (hX : ValidW X) (hN : N < 64) :
    Calls Try.prog 107 #[v, .int .i64 N] w (fun e w' => ∃ p c, e = .returned (.slice p X.weeks.toNat c) ∧ Ext w w' ∧ ListsAt w' p (grL X N X.weeks.toNat)) := by
  have hx4 := hX.recs
  obtain ⟨n, hn⟩ : ∃ n : Nat, X.weeks = n := ⟨X.weeks.toNat, by have := hX.weeks; omega⟩
  have hn6 : n ≤ 6 := by have := hX.weeks; omega
  have hnt : X.weeks.toNat = n := by omega
  rw [hnt]
  have HX := Lib.hid hX
  have HN := Lib.hid hn
  have HV := Lib.hid hv
  obtain ⟨p, cp, q, d, rfl, hR, hG⟩ := hv
  clear hX hR hG hn hnt
  go_enter Try.func107, Try.ntmps107
  go_upto_region 1 with (fail)
  rw [HN.out] at HV ⊢
  generalize hW : World.alloc _ _ = W
  have hb0 : W.heap[w.heap.size]? = some (.cells #[.int .i64 n, .int .i64 X.price, .int .i64 X.age, .int .i64 X.step, .slice p X.rough.length cp, .slice q X.recs.length d] 25) := by rw [← hW]; exact heap_new _ _
  have hE : Ext w W := by rw [← hW]; exact Ext.alloc (Ext.refl w) _
  have q2 : W.cell? ⟨w.heap.size, 2, none⟩ = some (.int .i64 X.age) := (cell_of_heap hb0 2).trans rfl
  have HB0 := Lib.hid hb0
  have HE := Lib.hid hE
  obtain ⟨B, hB⟩ : ∃ B, B = W.heap.size := ⟨_, rfl⟩
  have HBB := Lib.hid hB
  clear hW hb0 hE hB
  go_wp2
  go_loopw [5, 6, 7] (fun u a i wr => ∃ (k : Nat) (xs : List Value), k ≤ n ∧ i = .int .i64 k ∧ a = .int .i64 (ageB X N k) ∧ wr.ownsRow B 22 1 u k xs ∧ LsR B wr u.ownBlock xs (grL X N k) ∧ Ext W wr) (fun _ _ i _ => n - (intOf i).toNat)
  case atStart => exact ⟨0, [], Nat.zero_le _, rfl, rfl, World.ownsRow_nil _ _ _ _, fun i hi => absurd hi (by simp [grL]), Ext.refl _⟩
  case round =>
    obtain ⟨k, xs, hk, rfl, rfl, ho, hl, hEr⟩ := hrel
    have hb0 := heap_extB HB0.out hEr
    have d0 : wr.cell? ⟨w.heap.size, 0, none⟩ = some (.int .i64 n) := (cell_of_heap hb0 0).trans rfl
    have HO := Lib.hid ho
    have HL := Lib.hid hl
    have HER := Lib.hid hEr
    clear ho hl hEr hb0 q2
    by_cases hlt : k < n
    · have hktI : (k : Int) < (n : Int) := by omega
      have hgw := fun z (hz : Ext wr z) => heap_extB HB0.out (HER.out.trans hz)
      have HGW := Lib.hid hgw
      by_cases hbit : N.testBit k = true
      · have HH := Lib.hid (fun y => hasR03 N k y hN (by omega))
        rw [hbit] at HH
        have hAA : begA X N k = 0 := by unfold begA; rw [if_pos hbit]
        clear hgw hbit
        go_upto_region 8 with (go_at_call 120; refine (HH.out _).mono ?_; rintro e w' ⟨rfl, m5, rfl⟩)
        obtain ⟨Wd, hWd⟩ : ∃ Wd, Wd = wr.drewN m5 := ⟨_, rfl⟩
        have hEd : Ext wr Wd := by rw [hWd]; exact ((Qt.refl wr).drewN m5).ext
        rw [← hWd]
        have HED := Lib.hid (HER.out.trans hEd)
        have HEd2 := Lib.hid hEd
        have HS := Lib.hid (fun z (hz : Ext Wd z) => (⟨(cell_of_heap (HGW.out z (hEd.trans hz)) 0).trans rfl, (cell_of_heap (HGW.out z (hEd.trans hz)) 1).trans rfl, (cell_of_heap (HGW.out z (hEd.trans hz)) 2).trans rfl, (cell_of_heap (HGW.out z (hEd.trans hz)) 3).trans rfl, (cell_of_heap (HGW.out z (hEd.trans hz)) 4).trans rfl, (cell_of_heap (HGW.out z (hEd.trans hz)) 5).trans rfl⟩ :
          z.cell? ⟨w.heap.size, 0, none⟩ = some (.int .i64 n) ∧ z.cell? ⟨w.heap.size, 1, none⟩ = some (.int .i64 X.price) ∧ z.cell? ⟨w.heap.size, 2, none⟩ = some (.int .i64 X.age) ∧ z.cell? ⟨w.heap.size, 3, none⟩ = some (.int .i64 X.step) ∧ z.cell? ⟨w.heap.size, 4, none⟩ = some (.slice p X.rough.length cp) ∧ z.cell? ⟨w.heap.size, 5, none⟩ = some (.slice q X.recs.length d)))
        clear hWd hEd d0 HH
        have hAb : (0 : Int) ≤ 0 ∧ (0 : Int) ≤ 100000 := by have := begA_bd HX.out N k; rw [hAA] at this; omega
        have hpy := fun y (hy : Ext Wd y) (g c : Nat) (hi : IntsAt y (some ⟨g, 0, none⟩) (wornL X.recs.length (fun _ => 0))) => playR03 _ X (fun _ => 0) (0 : Int) (some ⟨g, 0, none⟩) c k y (WrV.mono _ _ _ _ ((HE.out.trans HED.out).trans hy) HV.out) HX.out (by rw [HN.out]; omega) (fun _ => ⟨by decide, by decide⟩) hAb hi
        have hpz := play_zero X N k
        have hna := next_age X N k
        rw [hAA] at hpz hna
        simp only [hpz, hna] at hpy
        have HPY := Lib.hid hpy
        clear hpy hpz hna hAb hAA
        refine wp_region_facts 10 [[], [], [1], [2], [3], [], [4, 5], [], [0, 6, 7], []] [8, 9] Ext
          (FL [Is (.agg #[.int .i64 n, .int .i64 X.price, .int .i64 X.age, .int .i64 X.step, .slice p X.rough.length cp, .slice q X.recs.length d]), Is (.pointer (some ⟨w.heap.size, 5, none⟩)), Is (.slice q X.recs.length d), Is (.int .i64 X.recs.length), MadeZ X.recs.length, Is (.int .i64 0), AggZ X.recs.length 0, Is (.int .i64 k),
            PlayZ Wd.heap.size X.recs.length (ageB X N (k + 1)) (grRow X N k), NewB (.cells #[.slice none 0 0, .int .i64 0] 100)])
          (by kernel_rfl) (by kernel_rfl) Ext.refl (fun _ _ _ => Ext.trans) (fun _ _ => Ext.size) (FL.mono ⟨Is.mono, Is.mono, Is.mono, Is.mono, MadeZ.mono, Is.mono, AggZ.mono, Is.mono, PlayZ.mono, NewB.mono, trivial⟩) ⟨?_, ?_, ?_, ?_, ?_, ?_, ?_, ?_, ?_, ?_, trivial⟩ ?_
        · refine opF_step ?_
          intro ys lo hi w' hr hf K hK
          clear hf
          obtain ⟨s0, s1, s2, s3, s4, s5⟩ := HS.out _ ((Ext.refl Wd).drew.trans hr)
          simp only [fill, Act.put, dstO, List.take_succ_cons, List.take_zero, List.setIfInBounds_toArray, List.set_cons_zero, List.set_cons_succ, List.getElem?_cons_zero, Nat.zero_add, Nat.reduceAdd] at hK ⊢
          refine OpB.mk' ?_
          go_simp
          exact hK.out _ _ rfl (Ext.refl _)
        · refine opF_step ?_
          intro ys lo hi w' hr hf K hK
          clear hf
          simp only [fill, Act.put, dstO, List.take_succ_cons, List.take_zero, List.setIfInBounds_toArray, List.set_cons_zero, List.set_cons_succ, List.getElem?_cons_zero, List.getElem?_cons_succ, Nat.zero_add, Nat.reduceAdd] at hK ⊢
          refine OpB.mk' ?_
          go_simp
          exact hK.out _ _ rfl (Ext.refl _)
        · refine opF_step ?_
          intro ys lo hi w' hr hf K hK
          obtain ⟨f0, -⟩ := hf
          have e0 : ys 1 = _ := f0
          obtain ⟨s0, s1, s2, s3, s4, s5⟩ := HS.out _ ((Ext.refl Wd).drew.trans hr)
          simp only [fill, Act.put, dstO, List.take_succ_cons, List.take_zero, List.setIfInBounds_toArray, List.set_cons_zero, List.set_cons_succ, List.getElem?_cons_zero, List.getElem?_cons_succ, Nat.zero_add, Nat.reduceAdd] at hK ⊢
          simp only [e0] at hK ⊢
          refine OpB.mk' ?_
          go_simp
          exact hK.out _ _ rfl (Ext.refl _)
        · refine opF_step ?_
          intro ys lo hi w' hr hf K hK
          obtain ⟨f0, -⟩ := hf
          have e0 : ys 2 = _ := f0
          simp only [fill, Act.put, dstO, List.take_succ_cons, List.take_zero, List.setIfInBounds_toArray, List.set_cons_zero, List.set_cons_succ, List.getElem?_cons_zero, List.getElem?_cons_succ, Nat.zero_add, Nat.reduceAdd] at hK ⊢
          simp only [e0] at hK ⊢
          refine OpB.mk' ?_
          go_simp
          exact hK.out _ _ rfl (Ext.refl _)
        · refine opF_step ?_
          intro ys lo hi w' hr hf K hK
          obtain ⟨f0, -⟩ := hf
          have e0 : ys 3 = _ := f0
          have hmk := run_make_row' (P := Try.prog) 22 3 (.int .i64 0) 8 Try.underlying22 info_a rfl .i64 .i64 X.recs.length (by omega) (by omega) w'
          simp only [fill, Act.put, dstO, List.take_succ_cons, List.take_zero, List.setIfInBounds_toArray, List.set_cons_zero, List.set_cons_succ, List.getElem?_cons_zero, List.getElem?_cons_succ, Nat.zero_add, Nat.reduceAdd] at hK ⊢
          simp only [e0] at hK ⊢
          refine OpB.mk' ?_
          go_simp
          exact hK.out _ _ ⟨rfl, by rw [size_alloc]; omega, zeros_at w' X.recs.length⟩ (Ext.alloc (Ext.refl _) _)
        · refine opF_step ?_
          intro ys lo hi w' hr hf K hK
          clear hf
          simp only [fill, Act.put, dstO, List.take_succ_cons, List.take_zero, List.setIfInBounds_toArray, List.set_cons_zero, List.set_cons_succ, List.getElem?_cons_zero, List.getElem?_cons_succ, Nat.zero_add, Nat.reduceAdd] at hK ⊢
          refine OpB.mk' ?_
          go_simp
          exact hK.out _ _ rfl (Ext.refl _)
        · refine opF_step ?_
          intro ys lo hi w' hr hf K hK
          obtain ⟨⟨e0, -, hi0⟩, f1, -⟩ := hf
          have e1 : ys 5 = _ := f1
          simp only [fill, Act.put, dstO, List.take_succ_cons, List.take_zero, List.setIfInBounds_toArray, List.set_cons_zero, List.set_cons_succ, List.getElem?_cons_zero, List.getElem?_cons_succ, Nat.zero_add, Nat.reduceAdd] at hK ⊢
          simp only [e0, e1] at hK ⊢
          refine OpB.mk' ?_
          go_simp
          exact hK.out _ _ ⟨_, _, rfl, hi0⟩ (Ext.refl _)
        · refine opF_step ?_
          intro ys lo hi w' hr hf K hK
          clear hf
          simp only [fill, Act.put, dstO, List.take_succ_cons, List.take_zero, List.setIfInBounds_toArray, List.set_cons_zero, List.set_cons_succ, List.getElem?_cons_zero, List.getElem?_cons_succ, Nat.zero_add, Nat.reduceAdd] at hK ⊢
          refine OpB.mk' ?_
          go_simp
          exact hK.out _ _ rfl (Ext.refl _)
        · refine opF_step ?_
          intro ys lo hi w' hr hf K hK
          obtain ⟨f0, ⟨g, c, e6, hi6⟩, f7, -⟩ := hf
          have e0 : ys 0 = _ := f0
          have e7 : ys 7 = _ := f7
          simp only [fill, Act.put, dstO, List.take_succ_cons, List.take_zero, List.setIfInBounds_toArray, List.set_cons_zero, List.set_cons_succ, List.getElem?_cons_zero, List.getElem?_cons_succ, Nat.zero_add, Nat.reduceAdd] at hK ⊢
          simp only [e0, e6, e7] at hK ⊢
          refine OpB.mk' ?_
          go_simp
          refine (HPY.out w' ((Ext.refl Wd).drew.trans hr) g c hi6).mono ?_
          rintro e w2 ⟨g2, c2, rfl, hE2, hg2, hi2⟩
          have hsz : Wd.heap.size ≤ w'.heap.size := hr.size
          exact hK.out _ _ ⟨g2, c2, rfl, by omega, hi2⟩ hE2
        · refine opF_step ?_
          intro ys lo hi w' hr hf K hK
          clear hf
          simp only [fill, Act.put, dstO, List.take_succ_cons, List.take_zero, List.setIfInBounds_toArray, List.set_cons_zero, List.set_cons_succ, List.getElem?_cons_zero, List.getElem?_cons_succ, Nat.zero_add, Nat.reduceAdd] at hK ⊢
          refine OpB.mk' ?_
          go_simp
          exact hK.out _ _ ⟨rfl, by rw [size_alloc]; omega, heap_new w' _⟩ (Ext.alloc (Ext.refl _) _)
        intro ys lo hi F hr hf hsp
        obtain ⟨⟨g, c, e8, hgB, hi8⟩, ⟨e9, l9, hb9⟩, -⟩ := hf
        simp only [fill, Act.put, List.take_succ_cons, List.take_zero, List.setIfInBounds_toArray, List.set_cons_zero, List.set_cons_succ, Nat.zero_add, Nat.reduceAdd, List.drop_succ_cons, List.drop_zero]
        simp only [e8, e9]
        have a9 := hsp.le 9 (by omega)
        obtain ⟨bo, hbo⟩ : ∃ bo, bo = lo 9 := ⟨_, rfl⟩
        rw [← hbo] at hb9 a9 ⊢
        have c0 : F.cell? ⟨bo, 0, none⟩ = some (.slice none 0 0) := (cell_of_heap hb9 0).trans rfl
        have c1 : F.cell? ⟨bo, 1, none⟩ = some (.int .i64 0) := (cell_of_heap hb9 1).trans rfl
        have cf := fun i => cell_frozen hb9 i
        have hEF : Ext wr F := HEd2.out.trans ((Ext.refl Wd).drew.trans hr)
        have HEF := Lib.hid hEF
        have HB9 := Lib.hid hb9
        have HI8 := Lib.hid hi8
        have hbor : wr.heap.size ≤ bo := Nat.le_trans HEd2.out.size a9.1
        clear hb9 hi8 hEF hr hsp l9 e8 e9 hbo HS HPY
        go_upto_region 9 with (fail)
        generalize hW5 : World.setCell _ _ _ = W5
        have hF5 : Fr (fun i => i = bo) F W5 := by rw [← hW5]; exact ((Fr.refl (fun i => i = bo) F).set rfl).set rfl
        have hb5 : W5.heap[bo]? = some (.cells #[.slice (some ⟨g, 0, none⟩) X.recs.length c, .int .i64 (ageB X N (k + 1))] 100) := by rw [← hW5]; exact heap_set2 HB9.out
        have hi5 := HI8.out.fr hF5 (fun a ha hne e => by
          cases ha
          have e2 : g = bo := e
          obtain ⟨b, o, he, hc⟩ := HI8.out.at 0 (List.length_pos_iff.2 hne)
          cases he
          rw [Nat.add_zero, e2, (cell_of_heap HB9.out 0)] at hc
          simp at hc)
        have hE5 : Ext wr W5 := Fr.ext HEF.out hF5 (fun i hi => by have e : i = bo := hi; omega)
        have hEW5 := HER.out.trans hE5
        have k0 : W5.cell? ⟨bo, 0, none⟩ = some (.slice (some ⟨g, 0, none⟩) X.recs.length c) := (cell_of_heap hb5 0).trans rfl
        have k1 : W5.cell? ⟨bo, 1, none⟩ = some (.int .i64 (ageB X N (k + 1))) := (cell_of_heap hb5 1).trans rfl
        have HK := Lib.hid (fun z (hz : Ext W5 z) => (⟨hz.cell k0, hz.cell k1⟩ : z.cell? ⟨bo, 0, none⟩ = some (.slice (some ⟨g, 0, none⟩) X.recs.length c) ∧ z.cell? ⟨bo, 1, none⟩ = some (.int .i64 (ageB X N (k + 1)))))
        have ho5 := ownsRow_ext HO.out hE5
        have hl5 := HL.out.ext hE5
        have hWB : B ≤ W5.heap.size := by have := hEW5.size; have := HBB.out; omega
        obtain ⟨i1, hi1, hy0, hy1, hy2⟩ := info_parts info_b
        have HI5 := Lib.hid hi5
        have HE5 := Lib.hid hEW5
        have HO5 := Lib.hid ho5
        have HL5 := Lib.hid hl5
        have hur : ∀ b, u5.ownBlock = some b → b < wr.heap.size := fun b hb => (HO.out.lt b hb).2
        have HUR := Lib.hid hur
        have hgr : Wd.heap.size ≤ g := hgB
        have hwd : wr.heap.size ≤ Wd.heap.size := HEd2.out.size
        have hrow : (grRow X N k).length = X.recs.length := wornL_len _ _
        have HROW := Lib.hid hrow
        have hkl := grL_len X N k
        have HKL := Lib.hid hkl
        clear hW5 hF5 hb5 hi5 hE5 hEW5 k0 k1 ho5 hl5 hur c0 c1 cf HEF HB9 HI8 HO HL HEd2 HED hrow hkl
        refine wp_region_heldT (fun z => z.cell? ⟨bo, 0, none⟩ = some (.slice (some ⟨g, 0, none⟩) X.recs.length c) ∧ z.cell? ⟨bo, 1, none⟩ = some (.int .i64 (ageB X N (k + 1)))) 8
          [(true, 0), (true, 1), (true, 2), (true, 5), (true, 6), (false, 3), (false, 4), (true, 7)] (by kernel_rfl) (by kernel_rfl) (HK.out _ (Ext.refl W5).drew) ?_
        simp only [List.map_cons, List.map_nil, List.getElem?_cons_zero, List.getElem?_cons_succ]
        obtain ⟨We, hWe⟩ : ∃ We, We = W5.drew := ⟨_, rfl⟩
        have hEe : Ext W5 We := by rw [hWe]; exact (Ext.refl W5).drew
        rw [← hWe]
        have HEE := Lib.hid hEe
        clear hWe hEe
        repeat (refine wpHL_take (v := ?_) (by rfl) ?_ (fun _ _ _ h => h) ?_; rotate_left 1; (intro z hz; (try dsimp only at hz); go_simp; (try with_reducible rfl)); simp only [Act.put, List.setIfInBounds_toArray, List.set_cons_zero, List.set_cons_succ])
        refine wpHL_step (fun K hK => ?_)
        go_simp
        refine hK.out _ _ (HK.out _ (Ext.alloc HEE.out _)) ?_
        clear hK K
        try simp only [Act.put, List.setIfInBounds_toArray, List.set_cons_zero, List.set_cons_succ]
        refine wpHL_step (fun K hK => ?_)
        refine step_append_lies _ rfl (.tmp 29) (.tmp 32) 155 rfl B 22 i1 (.slice none 0 0) 1 24 Try.underlying155 hi1 hy0 hy1 hy2 rfl (by decide) u5 k xs rfl (ownsRow_ext HO5.out (Ext.alloc HEE.out _)) ⟨We.heap.size, 0, none⟩ 1 1 [.slice (some ⟨g, 0, none⟩) X.recs.length c] rfl rfl (hnewsE (Ext.refl _) rfl) (one_slice _ _ _) (by decide) (by unfold maxLen; omega) (by omega) (by rw [size_alloc]; have := HEE.out.size; omega) _ rfl ?_
        intro g9 cap9 w1 hown hgrw hat hlt9
        have hEa : Ext W5 (We.alloc (.cells #[.slice (some ⟨g, 0, none⟩) X.recs.length c] 22)) := Ext.alloc HEE.out _
        have hub : ∀ b, u5.ownBlock = some b → B ≤ b ∧ b < wr.heap.size := fun b hb => ⟨(HO5.out.lt b hb).1, HUR.out b hb⟩
        have hEw1 : Ext W w1 := Fr.ext (HE5.out.trans hEa) (grown_fr hgrw) (fun b e => by have := (hub b e).1; have := HBB.out; omega)
        have hS1 : w1.cell? ⟨bo, 0, none⟩ = some (.slice (some ⟨g, 0, none⟩) X.recs.length c) ∧ w1.cell? ⟨bo, 1, none⟩ = some (.int .i64 (ageB X N (k + 1))) :=
          ⟨hgrw.cell (HK.out _ hEa).1 (fun e => by have := (hub bo e.symm).2; omega), hgrw.cell (HK.out _ hEa).2 (fun e => by have := (hub bo e.symm).2; omega)⟩
        have hst := LsR.step (x := grRow X N k) (mp := some ⟨g, 0, none⟩) (mc := c) (HL5.out.ext hEa) (by rw [HKL.out]; have := HO5.out.1; omega) hgrw hat (HI5.out.ext hEa) (fun a ha => by cases ha; show B ≤ g; have := HER.out.size; have := HBB.out; omega) (fun a ha _ e => by cases ha; have := (hub g e).2; omega)
        rw [HROW.out, ← grL_succ] at hst
        refine hK.out _ _ hS1 ?_
        have HOWN := Lib.hid hown
        have HST := Lib.hid hst
        have HEW1 := Lib.hid hEw1
        clear hK K hown hst hEw1 hgrw hat hub hEa hi1 hy0 hy1 hy2
        try simp only [Act.put, List.setIfInBounds_toArray, List.set_cons_zero, List.set_cons_succ]
        repeat (refine wpHL_take (v := ?_) (by rfl) ?_ (fun _ _ _ h => h) ?_; rotate_left 1; (intro z hz; (try dsimp only at hz); go_simp; (try with_reducible rfl)); simp only [Act.put, List.setIfInBounds_toArray, List.set_cons_zero, List.set_cons_succ])
        refine wpHL_nil ?_
        simp only [List.drop_succ_cons, List.drop_zero]
        clear hS1
        go_wp2
        go_roundw
        case rel => exact ⟨k + 1, _, by omega, by go_num, rfl, HOWN.out, HST.out, HEW1.out⟩
        case measure => simp [intOf]; omega
      · have HH := Lib.hid (fun y => hasR03 N k y hN (by omega))
        have hbf : N.testBit k = false := by simpa using hbit
        rw [hbf] at HH
        have hAA : begA X N k = ageB X N k := by unfold begA; rw [if_neg hbit]
        clear hbf
        clear hgw hbit
        go_upto_region 8 with (go_at_call 120; refine (HH.out _).mono ?_; rintro e w' ⟨rfl, m5, rfl⟩)
        obtain ⟨Wd, hWd⟩ : ∃ Wd, Wd = wr.drewN m5 := ⟨_, rfl⟩
        have hEd : Ext wr Wd := by rw [hWd]; exact ((Qt.refl wr).drewN m5).ext
        rw [← hWd]
        have HED := Lib.hid (HER.out.trans hEd)
        have HEd2 := Lib.hid hEd
        have HS := Lib.hid (fun z (hz : Ext Wd z) => (⟨(cell_of_heap (HGW.out z (hEd.trans hz)) 0).trans rfl, (cell_of_heap (HGW.out z (hEd.trans hz)) 1).trans rfl, (cell_of_heap (HGW.out z (hEd.trans hz)) 2).trans rfl, (cell_of_heap (HGW.out z (hEd.trans hz)) 3).trans rfl, (cell_of_heap (HGW.out z (hEd.trans hz)) 4).trans rfl, (cell_of_heap (HGW.out z (hEd.trans hz)) 5).trans rfl⟩ :
          z.cell? ⟨w.heap.size, 0, none⟩ = some (.int .i64 n) ∧ z.cell? ⟨w.heap.size, 1, none⟩ = some (.int .i64 X.price) ∧ z.cell? ⟨w.heap.size, 2, none⟩ = some (.int .i64 X.age) ∧ z.cell? ⟨w.heap.size, 3, none⟩ = some (.int .i64 X.step) ∧ z.cell? ⟨w.heap.size, 4, none⟩ = some (.slice p X.rough.length cp) ∧ z.cell? ⟨w.heap.size, 5, none⟩ = some (.slice q X.recs.length d)))
        clear hWd hEd d0 HH
        have hAb : 0 ≤ ageB X N k ∧ ageB X N k ≤ 100000 := by have := begA_bd HX.out N k; rw [hAA] at this; omega
        have hpy := fun y (hy : Ext Wd y) (g c : Nat) (hi : IntsAt y (some ⟨g, 0, none⟩) (wornL X.recs.length (fun _ => 0))) => playR03 _ X (fun _ => 0) (ageB X N k) (some ⟨g, 0, none⟩) c k y (WrV.mono _ _ _ _ ((HE.out.trans HED.out).trans hy) HV.out) HX.out (by rw [HN.out]; omega) (fun _ => ⟨by decide, by decide⟩) hAb hi
        have hpz := play_zero X N k
        have hna := next_age X N k
        rw [hAA] at hpz hna
        simp only [hpz, hna] at hpy
        have HPY := Lib.hid hpy
        clear hpy hpz hna hAb hAA
        refine wp_region_facts 10 [[], [], [1], [2], [3], [], [4, 5], [], [0, 6, 7], []] [8, 9] Ext
          (FL [Is (.agg #[.int .i64 n, .int .i64 X.price, .int .i64 X.age, .int .i64 X.step, .slice p X.rough.length cp, .slice q X.recs.length d]), Is (.pointer (some ⟨w.heap.size, 5, none⟩)), Is (.slice q X.recs.length d), Is (.int .i64 X.recs.length), MadeZ X.recs.length, Is (.int .i64 (ageB X N k)), AggZ X.recs.length (ageB X N k), Is (.int .i64 k),
            PlayZ Wd.heap.size X.recs.length (ageB X N (k + 1)) (grRow X N k), NewB (.cells #[.slice none 0 0, .int .i64 0] 100)])
          (by kernel_rfl) (by kernel_rfl) Ext.refl (fun _ _ _ => Ext.trans) (fun _ _ => Ext.size) (FL.mono ⟨Is.mono, Is.mono, Is.mono, Is.mono, MadeZ.mono, Is.mono, AggZ.mono, Is.mono, PlayZ.mono, NewB.mono, trivial⟩) ⟨?_, ?_, ?_, ?_, ?_, ?_, ?_, ?_, ?_, ?_, trivial⟩ ?_
        · refine opF_step ?_
          intro ys lo hi w' hr hf K hK
          clear hf
          obtain ⟨s0, s1, s2, s3, s4, s5⟩ := HS.out _ ((Ext.refl Wd).drew.trans hr)
          simp only [fill, Act.put, dstO, List.take_succ_cons, List.take_zero, List.setIfInBounds_toArray, List.set_cons_zero, List.set_cons_succ, List.getElem?_cons_zero, Nat.zero_add, Nat.reduceAdd] at hK ⊢
          refine OpB.mk' ?_
          go_simp
          exact hK.out _ _ rfl (Ext.refl _)
        · refine opF_step ?_
          intro ys lo hi w' hr hf K hK
          clear hf
          simp only [fill, Act.put, dstO, List.take_succ_cons, List.take_zero, List.setIfInBounds_toArray, List.set_cons_zero, List.set_cons_succ, List.getElem?_cons_zero, List.getElem?_cons_succ, Nat.zero_add, Nat.reduceAdd] at hK ⊢
          refine OpB.mk' ?_
          go_simp
          exact hK.out _ _ rfl (Ext.refl _)
        · refine opF_step ?_
          intro ys lo hi w' hr hf K hK
          obtain ⟨f0, -⟩ := hf
          have e0 : ys 1 = _ := f0
          obtain ⟨s0, s1, s2, s3, s4, s5⟩ := HS.out _ ((Ext.refl Wd).drew.trans hr)
          simp only [fill, Act.put, dstO, List.take_succ_cons, List.take_zero, List.setIfInBounds_toArray, List.set_cons_zero, List.set_cons_succ, List.getElem?_cons_zero, List.getElem?_cons_succ, Nat.zero_add, Nat.reduceAdd] at hK ⊢
          simp only [e0] at hK ⊢
          refine OpB.mk' ?_
          go_simp
          exact hK.out _ _ rfl (Ext.refl _)
        · refine opF_step ?_
          intro ys lo hi w' hr hf K hK
          obtain ⟨f0, -⟩ := hf
          have e0 : ys 2 = _ := f0
          simp only [fill, Act.put, dstO, List.take_succ_cons, List.take_zero, List.setIfInBounds_toArray, List.set_cons_zero, List.set_cons_succ, List.getElem?_cons_zero, List.getElem?_cons_succ, Nat.zero_add, Nat.reduceAdd] at hK ⊢
          simp only [e0] at hK ⊢
          refine OpB.mk' ?_
          go_simp
          exact hK.out _ _ rfl (Ext.refl _)
        · refine opF_step ?_
          intro ys lo hi w' hr hf K hK
          obtain ⟨f0, -⟩ := hf
          have e0 : ys 3 = _ := f0
          have hmk := run_make_row' (P := Try.prog) 22 3 (.int .i64 0) 8 Try.underlying22 info_a rfl .i64 .i64 X.recs.length (by omega) (by omega) w'
          simp only [fill, Act.put, dstO, List.take_succ_cons, List.take_zero, List.setIfInBounds_toArray, List.set_cons_zero, List.set_cons_succ, List.getElem?_cons_zero, List.getElem?_cons_succ, Nat.zero_add, Nat.reduceAdd] at hK ⊢
          simp only [e0] at hK ⊢
          refine OpB.mk' ?_
          go_simp
          exact hK.out _ _ ⟨rfl, by rw [size_alloc]; omega, zeros_at w' X.recs.length⟩ (Ext.alloc (Ext.refl _) _)
        · refine opF_step ?_
          intro ys lo hi w' hr hf K hK
          clear hf
          simp only [fill, Act.put, dstO, List.take_succ_cons, List.take_zero, List.setIfInBounds_toArray, List.set_cons_zero, List.set_cons_succ, List.getElem?_cons_zero, List.getElem?_cons_succ, Nat.zero_add, Nat.reduceAdd] at hK ⊢
          refine OpB.mk' ?_
          go_simp
          exact hK.out _ _ rfl (Ext.refl _)
        · refine opF_step ?_
          intro ys lo hi w' hr hf K hK
          obtain ⟨⟨e0, -, hi0⟩, f1, -⟩ := hf
          have e1 : ys 5 = _ := f1
          simp only [fill, Act.put, dstO, List.take_succ_cons, List.take_zero, List.setIfInBounds_toArray, List.set_cons_zero, List.set_cons_succ, List.getElem?_cons_zero, List.getElem?_cons_succ, Nat.zero_add, Nat.reduceAdd] at hK ⊢
          simp only [e0, e1] at hK ⊢
          refine OpB.mk' ?_
          go_simp
          exact hK.out _ _ ⟨_, _, rfl, hi0⟩ (Ext.refl _)
        · refine opF_step ?_
          intro ys lo hi w' hr hf K hK
          clear hf
          simp only [fill, Act.put, dstO, List.take_succ_cons, List.take_zero, List.setIfInBounds_toArray, List.set_cons_zero, List.set_cons_succ, List.getElem?_cons_zero, List.getElem?_cons_succ, Nat.zero_add, Nat.reduceAdd] at hK ⊢
          refine OpB.mk' ?_
          go_simp
          exact hK.out _ _ rfl (Ext.refl _)
        · refine opF_step ?_
          intro ys lo hi w' hr hf K hK
          obtain ⟨f0, ⟨g, c, e6, hi6⟩, f7, -⟩ := hf
          have e0 : ys 0 = _ := f0
          have e7 : ys 7 = _ := f7
          simp only [fill, Act.put, dstO, List.take_succ_cons, List.take_zero, List.setIfInBounds_toArray, List.set_cons_zero, List.set_cons_succ, List.getElem?_cons_zero, List.getElem?_cons_succ, Nat.zero_add, Nat.reduceAdd] at hK ⊢
          simp only [e0, e6, e7] at hK ⊢
          refine OpB.mk' ?_
          go_simp
          refine (HPY.out w' ((Ext.refl Wd).drew.trans hr) g c hi6).mono ?_
          rintro e w2 ⟨g2, c2, rfl, hE2, hg2, hi2⟩
          have hsz : Wd.heap.size ≤ w'.heap.size := hr.size
          exact hK.out _ _ ⟨g2, c2, rfl, by omega, hi2⟩ hE2
        · refine opF_step ?_
          intro ys lo hi w' hr hf K hK
          clear hf
          simp only [fill, Act.put, dstO, List.take_succ_cons, List.take_zero, List.setIfInBounds_toArray, List.set_cons_zero, List.set_cons_succ, List.getElem?_cons_zero, List.getElem?_cons_succ, Nat.zero_add, Nat.reduceAdd] at hK ⊢
          refine OpB.mk' ?_
          go_simp
          exact hK.out _ _ ⟨rfl, by rw [size_alloc]; omega, heap_new w' _⟩ (Ext.alloc (Ext.refl _) _)
        intro ys lo hi F hr hf hsp
        obtain ⟨⟨g, c, e8, hgB, hi8⟩, ⟨e9, l9, hb9⟩, -⟩ := hf
        simp only [fill, Act.put, List.take_succ_cons, List.take_zero, List.setIfInBounds_toArray, List.set_cons_zero, List.set_cons_succ, Nat.zero_add, Nat.reduceAdd, List.drop_succ_cons, List.drop_zero]
        simp only [e8, e9]
        have a9 := hsp.le 9 (by omega)
        obtain ⟨bo, hbo⟩ : ∃ bo, bo = lo 9 := ⟨_, rfl⟩
        rw [← hbo] at hb9 a9 ⊢
        have c0 : F.cell? ⟨bo, 0, none⟩ = some (.slice none 0 0) := (cell_of_heap hb9 0).trans rfl
        have c1 : F.cell? ⟨bo, 1, none⟩ = some (.int .i64 0) := (cell_of_heap hb9 1).trans rfl
        have cf := fun i => cell_frozen hb9 i
        have hEF : Ext wr F := HEd2.out.trans ((Ext.refl Wd).drew.trans hr)
        have HEF := Lib.hid hEF
        have HB9 := Lib.hid hb9
        have HI8 := Lib.hid hi8
        have hbor : wr.heap.size ≤ bo := Nat.le_trans HEd2.out.size a9.1
        clear hb9 hi8 hEF hr hsp l9 e8 e9 hbo HS HPY
        go_upto_region 9 with (fail)
        generalize hW5 : World.setCell _ _ _ = W5
        have hF5 : Fr (fun i => i = bo) F W5 := by rw [← hW5]; exact ((Fr.refl (fun i => i = bo) F).set rfl).set rfl
        have hb5 : W5.heap[bo]? = some (.cells #[.slice (some ⟨g, 0, none⟩) X.recs.length c, .int .i64 (ageB X N (k + 1))] 100) := by rw [← hW5]; exact heap_set2 HB9.out
        have hi5 := HI8.out.fr hF5 (fun a ha hne e => by
          cases ha
          have e2 : g = bo := e
          obtain ⟨b, o, he, hc⟩ := HI8.out.at 0 (List.length_pos_iff.2 hne)
          cases he
          rw [Nat.add_zero, e2, (cell_of_heap HB9.out 0)] at hc
          simp at hc)
        have hE5 : Ext wr W5 := Fr.ext HEF.out hF5 (fun i hi => by have e : i = bo := hi; omega)
        have hEW5 := HER.out.trans hE5
        have k0 : W5.cell? ⟨bo, 0, none⟩ = some (.slice (some ⟨g, 0, none⟩) X.recs.length c) := (cell_of_heap hb5 0).trans rfl
        have k1 : W5.cell? ⟨bo, 1, none⟩ = some (.int .i64 (ageB X N (k + 1))) := (cell_of_heap hb5 1).trans rfl
        have HK := Lib.hid (fun z (hz : Ext W5 z) => (⟨hz.cell k0, hz.cell k1⟩ : z.cell? ⟨bo, 0, none⟩ = some (.slice (some ⟨g, 0, none⟩) X.recs.length c) ∧ z.cell? ⟨bo, 1, none⟩ = some (.int .i64 (ageB X N (k + 1)))))
        have ho5 := ownsRow_ext HO.out hE5
        have hl5 := HL.out.ext hE5
        have hWB : B ≤ W5.heap.size := by have := hEW5.size; have := HBB.out; omega
        obtain ⟨i1, hi1, hy0, hy1, hy2⟩ := info_parts info_b
        have HI5 := Lib.hid hi5
        have HE5 := Lib.hid hEW5
        have HO5 := Lib.hid ho5
        have HL5 := Lib.hid hl5
        have hur : ∀ b, u5.ownBlock = some b → b < wr.heap.size := fun b hb => (HO.out.lt b hb).2
        have HUR := Lib.hid hur
        have hgr : Wd.heap.size ≤ g := hgB
        have hwd : wr.heap.size ≤ Wd.heap.size := HEd2.out.size
        have hrow : (grRow X N k).length = X.recs.length := wornL_len _ _
        have HROW := Lib.hid hrow
        have hkl := grL_len X N k
        have HKL := Lib.hid hkl
        clear hW5 hF5 hb5 hi5 hE5 hEW5 k0 k1 ho5 hl5 hur c0 c1 cf HEF HB9 HI8 HO HL HEd2 HED hrow hkl
        refine wp_region_heldT (fun z => z.cell? ⟨bo, 0, none⟩ = some (.slice (some ⟨g, 0, none⟩) X.recs.length c) ∧ z.cell? ⟨bo, 1, none⟩ = some (.int .i64 (ageB X N (k + 1)))) 8
          [(true, 0), (true, 1), (true, 2), (true, 5), (true, 6), (false, 3), (false, 4), (true, 7)] (by kernel_rfl) (by kernel_rfl) (HK.out _ (Ext.refl W5).drew) ?_
        simp only [List.map_cons, List.map_nil, List.getElem?_cons_zero, List.getElem?_cons_succ]
        obtain ⟨We, hWe⟩ : ∃ We, We = W5.drew := ⟨_, rfl⟩
        have hEe : Ext W5 We := by rw [hWe]; exact (Ext.refl W5).drew
        rw [← hWe]
        have HEE := Lib.hid hEe
        clear hWe hEe
        repeat (refine wpHL_take (v := ?_) (by rfl) ?_ (fun _ _ _ h => h) ?_; rotate_left 1; (intro z hz; (try dsimp only at hz); go_simp; (try with_reducible rfl)); simp only [Act.put, List.setIfInBounds_toArray, List.set_cons_zero, List.set_cons_succ])
        refine wpHL_step (fun K hK => ?_)
        go_simp
        refine hK.out _ _ (HK.out _ (Ext.alloc HEE.out _)) ?_
        clear hK K
        try simp only [Act.put, List.setIfInBounds_toArray, List.set_cons_zero, List.set_cons_succ]
        refine wpHL_step (fun K hK => ?_)
        refine step_append_lies _ rfl (.tmp 29) (.tmp 32) 155 rfl B 22 i1 (.slice none 0 0) 1 24 Try.underlying155 hi1 hy0 hy1 hy2 rfl (by decide) u5 k xs rfl (ownsRow_ext HO5.out (Ext.alloc HEE.out _)) ⟨We.heap.size, 0, none⟩ 1 1 [.slice (some ⟨g, 0, none⟩) X.recs.length c] rfl rfl (hnewsE (Ext.refl _) rfl) (one_slice _ _ _) (by decide) (by unfold maxLen; omega) (by omega) (by rw [size_alloc]; have := HEE.out.size; omega) _ rfl ?_
        intro g9 cap9 w1 hown hgrw hat hlt9
        have hEa : Ext W5 (We.alloc (.cells #[.slice (some ⟨g, 0, none⟩) X.recs.length c] 22)) := Ext.alloc HEE.out _
        have hub : ∀ b, u5.ownBlock = some b → B ≤ b ∧ b < wr.heap.size := fun b hb => ⟨(HO5.out.lt b hb).1, HUR.out b hb⟩
        have hEw1 : Ext W w1 := Fr.ext (HE5.out.trans hEa) (grown_fr hgrw) (fun b e => by have := (hub b e).1; have := HBB.out; omega)
        have hS1 : w1.cell? ⟨bo, 0, none⟩ = some (.slice (some ⟨g, 0, none⟩) X.recs.length c) ∧ w1.cell? ⟨bo, 1, none⟩ = some (.int .i64 (ageB X N (k + 1))) :=
          ⟨hgrw.cell (HK.out _ hEa).1 (fun e => by have := (hub bo e.symm).2; omega), hgrw.cell (HK.out _ hEa).2 (fun e => by have := (hub bo e.symm).2; omega)⟩
        have hst := LsR.step (x := grRow X N k) (mp := some ⟨g, 0, none⟩) (mc := c) (HL5.out.ext hEa) (by rw [HKL.out]; have := HO5.out.1; omega) hgrw hat (HI5.out.ext hEa) (fun a ha => by cases ha; show B ≤ g; have := HER.out.size; have := HBB.out; omega) (fun a ha _ e => by cases ha; have := (hub g e).2; omega)
        rw [HROW.out, ← grL_succ] at hst
        refine hK.out _ _ hS1 ?_
        have HOWN := Lib.hid hown
        have HST := Lib.hid hst
        have HEW1 := Lib.hid hEw1
        clear hK K hown hst hEw1 hgrw hat hub hEa hi1 hy0 hy1 hy2
        try simp only [Act.put, List.setIfInBounds_toArray, List.set_cons_zero, List.set_cons_succ]
        repeat (refine wpHL_take (v := ?_) (by rfl) ?_ (fun _ _ _ h => h) ?_; rotate_left 1; (intro z hz; (try dsimp only at hz); go_simp; (try with_reducible rfl)); simp only [Act.put, List.setIfInBounds_toArray, List.set_cons_zero, List.set_cons_succ])
        refine wpHL_nil ?_
        simp only [List.drop_succ_cons, List.drop_zero]
        clear hS1
        go_wp2
        go_roundw
        case rel => exact ⟨k + 1, _, by omega, by go_num, rfl, HOWN.out, HST.out, HEW1.out⟩
        case measure => simp [intOf]; omega
    · obtain rfl : k = n := by omega
      go_wp2
      go_ret
      obtain ⟨pr, cr, hu, hla⟩ := HL.out.out (by rw [grL_len]; exact HO.out)
      rw [grL_len] at hu
      exact ⟨pr, cr, by rw [hu]; rfl, HE.out.trans HER.out, hla⟩
end Go.Proofs.Ytkcilgjkdiopnaa
