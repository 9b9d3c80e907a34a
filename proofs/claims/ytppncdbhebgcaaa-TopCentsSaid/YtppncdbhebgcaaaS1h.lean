
/- TopCents: the walks of the references' Copy of a contract and of a royal. -/
import Derived.Test.YtppncdbhebgcaaaS1c
import Derived.Test.YtppncdbhebgcaaaCF
import Derived.Test.YtppncdbhebgcaaaS0t
namespace Go.Proofs.Ytppncdbhebgcaaa
open Go.RowKit

/- A contract. -/
def clAt (c : Cl) (r : Nat) : Int := if r = 0 then c.k else if r = 1 then c.cents else if r = 2 then c.part else c.more
def clVs (l : List Cl) : List Value := (List.range (l.length * 4)).map fun j => .int .i64 (clAt (l.getD (j / 4) ⟨0, 0, 0, 0⟩) (j % 4))
theorem clVs_len (l : List Cl) : (clVs l).length = l.length * 4 := by simp [clVs]
theorem clVs_at {l : List Cl} {i r : Nat} (h : i < l.length) (hr : r < 4) : (clVs l)[i * 4 + r]? = some (.int .i64 (clAt l[i] r)) := by
  unfold clVs
  rw [List.getElem?_map, List.getElem?_range (by omega)]
  have e : (i * 4 + r) / 4 = i := by omega
  have e2 : (i * 4 + r) % 4 = r := by omega
  simp [e, e2, List.getD_eq_getElem?_getD, h]
theorem cls_news {w : World} {b o : Nat} {l : List Cl} (h : ClsAt w (some ⟨b, o, none⟩) l) : ∀ j u, (clVs l)[j]? = some u → w.cell? ((⟨b, o, none⟩ : Addr).add j) = some u := by
  intro j u hj
  have hjl : j < l.length * 4 := by have := (List.getElem?_eq_some_iff.1 hj).1; rwa [clVs_len] at this
  have hadd : (⟨b, o, none⟩ : Addr).add j = ⟨b, o + j, none⟩ := by
    by_cases h0 : j = 0
    · subst h0; rfl
    · simp [Addr.add, h0]
  rw [hadd]
  obtain ⟨i, hi⟩ : ∃ i, j = i * 4 ∨ j = i * 4 + 1 ∨ j = i * 4 + 2 ∨ j = i * 4 + 3 := ⟨j / 4, by omega⟩
  rcases hi with rfl | rfl | rfl | rfl
  · obtain ⟨b', o', he, h0, h1, h2, h3⟩ := h i (by omega)
    cases he
    rw [show i * 4 = i * 4 + 0 from rfl, clVs_at (by omega) (by decide)] at hj
    cases hj
    exact h0
  · obtain ⟨b', o', he, h0, h1, h2, h3⟩ := h i (by omega)
    cases he
    rw [clVs_at (by omega) (by decide)] at hj
    cases hj
    exact h1
  · obtain ⟨b', o', he, h0, h1, h2, h3⟩ := h i (by omega)
    cases he
    rw [clVs_at (by omega) (by decide)] at hj
    cases hj
    exact h2
  · obtain ⟨b', o', he, h0, h1, h2, h3⟩ := h i (by omega)
    cases he
    rw [clVs_at (by omega) (by decide)] at hj
    cases hj
    exact h3
theorem row_cls {w : World} {B g n c : Nat} {e : TypeId} {l : List Cl} (h : w.ownsRow B e 4 (.slice (some ⟨g, 0, none⟩) n c) n (clVs l)) : ClsAt w (some ⟨g, 0, none⟩) l := by
  have hn := h.1
  rw [clVs_len] at hn
  rcases h.2 with ⟨hv, -⟩ | ⟨g', cap, cur, hv, -, hg, hc, -, hs, hx⟩
  · cases hv
  · cases hv
    have key : ∀ j, j < l.length * 4 → w.cell? ⟨g, j, none⟩ = (clVs l)[j]? := by
      intro j hj
      rw [cell_of_heap hg, ← hx, List.getElem?_take, if_pos (by omega)]
      simp
    intro i hi
    refine ⟨g, 0, rfl, ?_, ?_, ?_, ?_⟩
    · rw [Nat.zero_add, key _ (by omega), show i * 4 = i * 4 + 0 from rfl, clVs_at hi (by decide)]; rfl
    · rw [Nat.zero_add, key _ (by omega), clVs_at hi (by decide)]; rfl
    · rw [Nat.zero_add, key _ (by omega), clVs_at hi (by decide)]; rfl
    · rw [Nat.zero_add, key _ (by omega), clVs_at hi (by decide)]; rfl
def EmG (B : Nat) (v : Value) (s _ : Nat) (w : World) : Prop := v = .slice (some ⟨s, 0, none⟩) 0 0 ∧ w.ownsRow B 68 4 v 0 []
theorem EmG.mono {B : Nat} : ∀ v s t w w', Ext w w' → EmG B v s t w → EmG B v s t w' := fun _ _ _ _ _ hE ⟨h1, h2⟩ => ⟨h1, ownsRow_ext h2 hE⟩
def RwC (B : Nat) (l : List Cl) (v : Value) (_ _ : Nat) (w : World) : Prop := ∃ g cn, v = .slice (some ⟨g, 0, none⟩) l.length cn ∧ w.ownsRow B 68 4 v l.length (clVs l)
theorem RwC.mono {B : Nat} {l : List Cl} : ∀ v s t w w', Ext w w' → RwC B l v s t w → RwC B l v s t w' := fun _ _ _ _ _ hE ⟨g, cn, h1, h2⟩ => ⟨g, cn, h1, ownsRow_ext h2 hE⟩
theorem info_cl : (Try.prog.info? 68).map (fun i => (i.zero, i.size, i.bytes)) = some (some (.agg #[.int .i64 0, .int .i64 0, .int .i64 0, .int .i64 0]), 4, 32) := by kernel_rfl
theorem wp_cls_of {w : World} {o : Oper} {a : Act} {K : Act → World → Prop} {Q : Exit → Act → World → Prop} (s x : Operand)
    (ho : o.op = .call { callee := .builtin .append, args := #[s, x], argTypes := #[22, 22] })
    (B H : Nat) (hB : B ≤ w.heap.size) (hs : a.eval s = .slice (some ⟨H, 0, none⟩) 0 0) (hown : w.ownsRow B 68 4 (.slice (some ⟨H, 0, none⟩) 0 0) 0 [])
    (p : Option Addr) (l : List Cl) (c : Nat) (hx : a.eval x = .slice p l.length c) (hl : ClsAt w p l) (hle : l.length ≤ 1000)
    (h : ∀ v w', RwC B l v w.heap.size w'.heap.size w' → Ext w w' → K (a.put o.dst v) w') :
    Oper.wp Try.prog o a w K Q := by
  obtain ⟨i0, hi, hz0, hz1, hz2⟩ := info_parts info_cl
  cases l with
  | nil =>
    have hrun := run_append_owned_zero (P := Try.prog) (w := w) B 22 o.type 68 i0 4 Try.underlying22 hi _ 0 c p [] hown
    unfold Oper.wp
    simp only [List.length_nil] at hx
    simp [execOp, ho, resolve, invoke, builtin, hs, hx, hrun, Result.andThen]
    exact h _ w ⟨H, 0, rfl, hown⟩ (Ext.refl w)
  | cons y r =>
    obtain ⟨l, hll⟩ : ∃ l, l = y :: r := ⟨_, rfl⟩
    rw [← hll] at h hx hl hle
    have hpos : 0 < l.length := by rw [hll]; simp
    clear hll
    obtain ⟨b0, o0, rfl, -, -⟩ := hl 0 hpos
    refine wp_new_row s x 22 ho 68 i0 _ 4 32 Try.underlying22 hi hz0 hz1 hz2 rfl _ hs ⟨b0, o0, none⟩ l.length c (clVs l) hx (clVs_len l) (cls_news hl) hpos (by omega) (by simp only [maxLen]; omega) ?_
    intro cap w' hE ho' hlt
    exact h _ w' ⟨_, cap, rfl, ownsRow_base ho' hB⟩ hE
theorem copyEnd09 {W : World} {s : Nat} {a : Act} {x0 x1 : Value} {ty : TypeId} {R : Ending → World → Prop} (hm : W.heap[s]? = some (.cells #[x0, x1] ty)) (ha : a.tmps[2]? = some (.pointer (some ⟨s, 0, none⟩))) (hd : a.defers = [])
    (h : R (.returned (.agg #[x0, x1])) W) : bodyPost Try.prog Try.f10 R .ret a W := by
  have c0 := cell_of_heap hm 0
  have c1 := cell_of_heap hm 1
  simp at c0 c1
  refine bodyPost_ret (v := .agg #[x0, x1]) ?_ hd h
  cases a with
  | mk tm df =>
    simp only at ha
    simp [results, Try.results10, go_sem, ha, c0, c1]
set_option maxRecDepth 20000 in
set_option maxHeartbeats 3200000 in
theorem rCopy09 (p : Option Addr) (cs : List Cl) (c : Nat) (loan : Int) (w : World) (hp : ClsAt w p cs) (hl : cs.length ≤ 1000) :
    Calls Try.prog 10 #[.agg #[.slice p cs.length c, .int .i64 loan]] w (fun e w' => ∃ g cn, e = .returned (.agg #[.slice (some ⟨g, 0, none⟩) cs.length cn, .int .i64 loan]) ∧ Ext w w' ∧ ClsAt w' (some ⟨g, 0, none⟩) cs) := by
  have HP := Lib.hid (fun y (h : Ext w y) => hp.ext h)
  have HL := Lib.hid hl
  clear hp hl
  go_enter Try.func10, Try.ntmps10
  go_upto_region 1 with (fail)
  obtain ⟨s0, hs0⟩ : ∃ s0, s0 = w.heap.size := ⟨_, rfl⟩
  obtain ⟨W1, hW1⟩ : ∃ W1, W1 = w.alloc (.cells #[.slice p cs.length c, .int .i64 loan] 24) := ⟨_, rfl⟩
  obtain ⟨W, hW⟩ : ∃ W, W = W1.alloc (.cells #[.slice none 0 0, .int .i64 0] 24) := ⟨_, rfl⟩
  have z1 : W1.heap.size = s0 + 1 := by rw [hW1, size_alloc, hs0]
  have z2 : W.heap.size = s0 + 1 + 1 := by rw [hW, size_alloc, z1]
  have x1 : Ext w W1 := by rw [hW1]; exact Ext.alloc (Ext.refl _) _
  have x2 : Ext W1 W := by rw [hW]; exact Ext.alloc (Ext.refl _) _
  have m0 : W.heap[s0]? = some (.cells #[.slice p cs.length c, .int .i64 loan] 24) := heap_ext3 (by rw [hs0, hW1]; exact heap_new _ _) x2
  have m1 : W.heap[s0 + 1]? = some (.cells #[.slice none 0 0, .int .i64 0] 24) := by rw [← z1, hW]; exact heap_new _ _
  rw [← hs0, ← hW1, ← hW]
  have HE := Lib.hid (x1.trans x2)
  have HSZ := Lib.hid (⟨hs0, z2⟩ : s0 = w.heap.size ∧ W.heap.size = s0 + 1 + 1)
  have HCE := Lib.hid (fun y (h : Ext W y) => (⟨cell_of_heap (heap_ext3 m0 h) 0, cell_of_heap (heap_ext3 m0 h) 1, heap_ext3 m1 h⟩ :
    y.cell? ⟨s0, 0, none⟩ = some (.slice p cs.length c) ∧ y.cell? ⟨s0, 1, none⟩ = some (.int .i64 loan) ∧ y.heap[s0 + 1]? = some (.cells #[.slice none 0 0, .int .i64 0] 24)))
  clear hW hW1 m0 m1 hs0 z1 z2 x1 x2
  refine wp_region_facts 6 [[], [], [1], [0, 2], [], [4]] [3, 5] Ext (FL [EmG W.heap.size, Is (.pointer (some ⟨s0, 0, none⟩)), Is (.slice p cs.length c), RwC W.heap.size cs, Is (.pointer (some ⟨s0, 1, none⟩)), Is (.int .i64 loan)]) (by kernel_rfl) (by kernel_rfl) Ext.refl (fun _ _ _ => Ext.trans) (fun _ _ => Ext.size) (FL.mono ⟨EmG.mono, Is.mono, Is.mono, RwC.mono, Is.mono, Is.mono, trivial⟩) ⟨?_, ?_, ?_, ?_, ?_, ?_, trivial⟩ ?_
  · refine opF_step ?_
    intro ys l0 h0 w' hr hf K hK
    clear hf
    simp only [fill, Act.put, dstO, List.take_succ_cons, List.take_zero, List.setIfInBounds_toArray, List.set_cons_zero, List.set_cons_succ, List.getElem?_cons_zero, Nat.zero_add, Nat.reduceAdd] at hK ⊢
    refine OpB.mk' ?_
    go_simp
    exact hK.out _ _ ⟨rfl, World.ownsRow_made w' #[] 0 (Ext.size ((Ext.refl W).drew.trans hr)) (by decide) rfl⟩ (Ext.alloc (Ext.refl _) _)
  · refine opF_step ?_
    intro ys l0 h0 w' hr hf K hK
    clear hf
    simp only [fill, Act.put, dstO, List.take_succ_cons, List.take_zero, List.setIfInBounds_toArray, List.set_cons_zero, List.set_cons_succ, List.getElem?_cons_zero, List.getElem?_cons_succ, Nat.zero_add, Nat.reduceAdd] at hK ⊢
    refine OpB.mk' ?_
    go_simp
    exact hK.out _ _ rfl (Ext.refl _)
  · refine opF_step ?_
    intro ys l0 h0 w' hr hf K hK
    obtain ⟨f0, -⟩ := hf
    have e0 : ys 1 = _ := f0
    obtain ⟨j0, j1, j2⟩ := HCE.out w' ((Ext.refl W).drew.trans hr)
    simp only [fill, Act.put, dstO, List.take_succ_cons, List.take_zero, List.setIfInBounds_toArray, List.set_cons_zero, List.set_cons_succ, List.getElem?_cons_zero, List.getElem?_cons_succ, Nat.zero_add, Nat.reduceAdd] at hK ⊢
    simp only [e0] at hK ⊢
    clear e0 f0
    refine OpB.mk' ?_
    go_simp
    exact hK.out _ _ rfl (Ext.refl _)
  · refine opF_step ?_
    intro ys l0 h0 w' hr hf K hK
    obtain ⟨f0, f1, -⟩ := hf
    obtain ⟨e0, o0⟩ := f0
    have e1 : ys 2 = _ := f1
    rw [e0] at o0
    simp only [fill, Act.put, dstO, List.take_succ_cons, List.take_zero, List.setIfInBounds_toArray, List.set_cons_zero, List.set_cons_succ, List.getElem?_cons_zero, List.getElem?_cons_succ, Nat.zero_add, Nat.reduceAdd] at hK ⊢
    simp only [e0, e1] at hK ⊢
    clear e0 e1 f1
    refine OpB.mkG rfl (wp_cls_of (.tmp 3) (.tmp 5) rfl W.heap.size (l0 0) (Ext.size ((Ext.refl W).drew.trans hr)) rfl o0 p cs c rfl (HP.out w' (HE.out.trans ((Ext.refl W).drew.trans hr))) HL.out ?_)
    intro z w2 hf2 hE2
    exact hK.out z w2 hf2 hE2
  · refine opF_step ?_
    intro ys l0 h0 w' hr hf K hK
    clear hf
    simp only [fill, Act.put, dstO, List.take_succ_cons, List.take_zero, List.setIfInBounds_toArray, List.set_cons_zero, List.set_cons_succ, List.getElem?_cons_zero, List.getElem?_cons_succ, Nat.zero_add, Nat.reduceAdd] at hK ⊢
    refine OpB.mk' ?_
    go_simp
    exact hK.out _ _ rfl (Ext.refl _)
  · refine opF_step ?_
    intro ys l0 h0 w' hr hf K hK
    obtain ⟨f0, -⟩ := hf
    have e0 : ys 4 = _ := f0
    obtain ⟨j0, j1, j2⟩ := HCE.out w' ((Ext.refl W).drew.trans hr)
    simp only [fill, Act.put, dstO, List.take_succ_cons, List.take_zero, List.setIfInBounds_toArray, List.set_cons_zero, List.set_cons_succ, List.getElem?_cons_zero, List.getElem?_cons_succ, Nat.zero_add, Nat.reduceAdd] at hK ⊢
    simp only [e0] at hK ⊢
    clear e0 f0
    refine OpB.mk' ?_
    go_simp
    exact hK.out _ _ rfl (Ext.refl _)
  intro ys l0 h0 w2 hr hf hsp
  obtain ⟨f3, f5, -⟩ := hf
  obtain ⟨g1, c1, e3, o3⟩ := f3
  have e5 : ys 5 = _ := f5
  simp only [fill, Act.put, List.take_succ_cons, List.take_zero, List.setIfInBounds_toArray, List.set_cons_zero, List.set_cons_succ, Nat.zero_add, Nat.reduceAdd, List.drop_succ_cons, List.drop_zero]
  rw [e5]
  clear e5 f5
  rw [e3] at o3
  rw [e3]
  clear hsp
  have hE2 : Ext W w2 := (Ext.refl W).drew.trans hr
  obtain ⟨-, -, m1⟩ := HCE.out w2 hE2
  have O3 := Lib.hid o3
  have M1 := Lib.hid m1
  have HE2 := Lib.hid hE2
  have d0 : w2.cell? ⟨s0 + 1, 0, none⟩ = some (.slice none 0 0) := cell_of_heap m1 0
  have d1 : w2.cell? ⟨s0 + 1, 1, none⟩ = some (.int .i64 0) := cell_of_heap m1 1
  have b0 : w2.frozen? ⟨s0 + 1, 0, none⟩ = false := cell_frozen m1 0
  have b1 : w2.frozen? ⟨s0 + 1, 1, none⟩ = false := cell_frozen m1 1
  clear e3 o3 hr m1 hE2 HCE HP HL
  go_wp2
  obtain ⟨h1, h2⟩ := HSZ.out
  refine copyEnd09 (heap_set (heap_set M1.out rfl) rfl) rfl rfl ⟨g1, c1, rfl, ?_, row_cls (B := W.heap.size) (n := cs.length) (c := c1) (ownsRow_off (ownsRow_off O3.out (by omega)) (by omega))⟩
  exact Ext.setCell (Ext.setCell (HE.out.trans HE2.out) (p := ⟨s0 + 1, 0, none⟩) (by show w.heap.size ≤ s0 + 1; omega) _) (p := ⟨s0 + 1, 1, none⟩) (by show w.heap.size ≤ s0 + 1; omega) _

/- A royal. -/
/-- a row of sides: it, and each side's parts, in blocks of their own -/
structure SdR (w : World) (B : Nat) (v : Value) (vs : List Value) (L : List Sd) : Prop where
  len : vs.length = L.length * 2
  out : w.ownsRow B 72 2 v L.length vs
  elt : ∀ i (h : i < L.length), ∃ g c, vs[i * 2]? = some (.int .i64 L[i].plays) ∧ vs[i * 2 + 1]? = some (.slice (some ⟨g, 0, none⟩) L[i].parts.length c) ∧
    w.ownsRow B 104 2 (.slice (some ⟨g, 0, none⟩) L[i].parts.length c) L[i].parts.length (pairVs L[i].parts)
theorem SdR.nil (w : World) (B : Nat) : SdR w B (.slice none 0 0) [] [] := ⟨rfl, World.ownsRow_nil _ _ _ _, fun i h => absurd h (by simp)⟩
theorem SdR.ext {w w' : World} {B : Nat} {v : Value} {vs : List Value} {L : List Sd} (h : SdR w B v vs L) (hE : Ext w w') : SdR w' B v vs L :=
  ⟨h.len, ownsRow_ext h.out hE, fun i hi => by obtain ⟨g, c, e0, e1, o⟩ := h.elt i hi; exact ⟨g, c, e0, e1, ownsRow_ext o hE⟩⟩
theorem SdR.step {wr w2 w4 : World} {B B2 n g4 cap4 g c : Nat} {u : Value} {vs : List Value} {L : List Sd} {s : Sd} (h : SdR wr B u vs L) (hE : Ext wr w2)
    (hO : w2.ownsRow B2 104 2 (.slice (some ⟨g, 0, none⟩) s.parts.length c) s.parts.length (pairVs s.parts)) (hB : B ≤ B2)
    (h4 : w4.ownsRow B 72 2 (.slice (some ⟨g4, 0, none⟩) n cap4) (L.length + 1) (vs ++ [.int .i64 s.plays, .slice (some ⟨g, 0, none⟩) s.parts.length c])) (hg : w2.grownBy w4 u.ownBlock) :
    SdR w4 B (.slice (some ⟨g4, 0, none⟩) n cap4) (vs ++ [.int .i64 s.plays, .slice (some ⟨g, 0, none⟩) s.parts.length c]) (L ++ [s]) := by
  have hF := grown_fr hg
  have hl := h.len
  have hu := h.out.2
  have hne : ∀ {e : TypeId} {g m c : Nat} {xs : List Value} {BB : Nat}, e ≠ 72 → w2.ownsRow BB e 2 (.slice (some ⟨g, 0, none⟩) m c) m xs → ∀ x, (Value.slice (some ⟨g, 0, none⟩) m c).ownBlock = some x → ¬u.ownBlock = some x := by
    intro e g m c xs BB he ho x hx hux
    cases hx
    rcases hu with ⟨hv, -⟩ | ⟨g', cap', cur', hv, -⟩
    · rw [hv] at hux; cases hux
    · have hout := ownsRow_ext h.out hE
      rw [hv] at hux hout
      cases hux
      exact own_ne ho hout he rfl
  have hget : ∀ k, k < vs.length → ∀ xs : List Value, (vs ++ xs)[k]? = vs[k]? := fun k hk xs => List.getElem?_append_left hk
  have hget2 : ∀ k, (vs ++ [Value.int .i64 s.plays, .slice (some ⟨g, 0, none⟩) s.parts.length c])[L.length * 2 + k]? = [Value.int .i64 s.plays, .slice (some ⟨g, 0, none⟩) s.parts.length c][k]? := fun k => by
    rw [List.getElem?_append_right (by omega), hl]
    congr 1
    omega
  refine ⟨by simp [hl]; omega, by rw [List.length_append]; exact h4, fun i hi => ?_⟩
  by_cases hil : i < L.length
  · obtain ⟨q1, d1, e0, e1, r1⟩ := h.elt i hil
    have el : (L ++ [s])[i] = L[i] := List.getElem_append_left hil
    rw [el]
    have r1' := ownsRow_ext r1 hE
    exact ⟨q1, d1, by rw [hget _ (by omega)]; exact e0, by rw [hget _ (by omega)]; exact e1, ownsRow_fr r1' hF (hne (by decide) r1')⟩
  · have hil' : i = L.length := by simp at hi; omega
    subst hil'
    have el : (L ++ [s])[L.length] = s := by simp
    rw [el]
    exact ⟨g, c, hget2 0, hget2 1, ownsRow_base (ownsRow_fr hO hF (hne (by decide) hO)) hB⟩
theorem SdR.sides {w : World} {B : Nat} {v : Value} {vs : List Value} {L : List Sd} (h : SdR w B v vs L) : ∃ p c, v = .slice p L.length c ∧ SidesAt w p L := by
  rcases h.out.2 with ⟨hv, h0⟩ | ⟨g, cap, cur, hv, hB, hg, hc, -, hs, hx⟩
  · have h0 := List.length_eq_zero_iff.1 h0
    subst h0
    exact ⟨none, 0, hv, fun i hi => absurd hi (by simp)⟩
  · refine ⟨_, cap, hv, fun i hi => ?_⟩
    have key : ∀ j, j < L.length * 2 → w.cell? ⟨g, j, none⟩ = vs[j]? := fun j hj => by
      rw [cell_of_heap hg, ← hx, List.getElem?_take, if_pos (by omega)]
      simp
    obtain ⟨g1, c1, e0, e1, o1⟩ := h.elt i hi
    exact ⟨g, 0, _, c1, rfl, by rw [Nat.zero_add, key _ (by omega)]; exact e0, by rw [Nat.zero_add, key _ (by omega)]; exact e1, row_pairs o1⟩
theorem SdR.off {w : World} {B b o : Nat} {u v : Value} {vs : List Value} {L : List Sd} (h : SdR w B u vs L) (hb : b < B) : SdR (w.setCell ⟨b, o, none⟩ v) B u vs L := by
  refine ⟨h.len, ownsRow_off h.out hb, fun i hi => ?_⟩
  obtain ⟨g1, c1, e0, e1, o1⟩ := h.elt i hi
  exact ⟨g1, c1, e0, e1, ownsRow_off o1 hb⟩
theorem info_pt : (Try.prog.info? 104).map (fun i => (i.zero, i.size, i.bytes)) = some (some (.agg #[.int .i64 0, .int .i64 0]), 2, 16) := by kernel_rfl
theorem info_sd : (Try.prog.info? 72).map (fun i => (i.zero, i.size, i.bytes)) = some (some (.agg #[.int .i64 0, .slice none 0 0]), 2, 32) := by kernel_rfl
def SdF (B : Nat) (s : Sd) (v : Value) (_ _ : Nat) (w : World) : Prop := ∃ g cn, v = .agg #[.int .i64 s.plays, .slice (some ⟨g, 0, none⟩) s.parts.length cn] ∧ w.ownsRow B 104 2 (.slice (some ⟨g, 0, none⟩) s.parts.length cn) s.parts.length (pairVs s.parts)
theorem SdF.mono {B : Nat} {s : Sd} : ∀ v a t w w', Ext w w' → SdF B s v a t w → SdF B s v a t w' := fun _ _ _ _ _ hE ⟨g, cn, h1, h2⟩ => ⟨g, cn, h1, ownsRow_ext h2 hE⟩
def OneSd (B : Nat) (s : Sd) (v : Value) (_ _ : Nat) (w : World) : Prop := ∃ h g cn, v = .slice (some ⟨h, 0, none⟩) 1 1 ∧ w.heap[h]? = some (.cells #[.int .i64 s.plays, .slice (some ⟨g, 0, none⟩) s.parts.length cn] 72) ∧
  w.ownsRow B 104 2 (.slice (some ⟨g, 0, none⟩) s.parts.length cn) s.parts.length (pairVs s.parts)
theorem OneSd.mono {B : Nat} {s : Sd} : ∀ v a t w w', Ext w w' → OneSd B s v a t w → OneSd B s v a t w' := fun _ _ _ _ _ hE ⟨h, g, cn, h1, h2, h3⟩ => ⟨h, g, cn, h1, heap_ext3 h2 hE, ownsRow_ext h3 hE⟩
theorem copyEnd10 {W : World} {s : Nat} {a : Act} {x0 x1 x2 : Value} {ty : TypeId} {R : Ending → World → Prop} (hm : W.heap[s]? = some (.cells #[x0, x1, x2] ty)) (ha : a.tmps[2]? = some (.pointer (some ⟨s, 0, none⟩))) (hd : a.defers = [])
    (h : R (.returned (.agg #[x0, x1, x2])) W) : bodyPost Try.prog Try.f11 R .ret a W := by
  have c0 := cell_of_heap hm 0
  have c1 := cell_of_heap hm 1
  have c2 := cell_of_heap hm 2
  simp at c0 c1 c2
  refine bodyPost_ret (v := .agg #[x0, x1, x2]) ?_ hd h
  cases a with
  | mk tm df =>
    simp only at ha
    simp [results, Try.results11, go_sem, ha, c0, c1, c2]

set_option maxRecDepth 20000 in
set_option maxHeartbeats 6400000 in
theorem rCopy10 (R : Ry) (v : Value) (w : World) (hv : RyV w v R) (hl : R.owed.length ≤ 1000) (hm : R.sides.length ≤ 1000) (hps : ∀ s ∈ R.sides, s.parts.length ≤ 1000) :
    Calls Try.prog 11 #[v] w (fun e w' => ∃ v', e = .returned v' ∧ Ext w w' ∧ RyV w' v' R) := by
  obtain ⟨p, c, q, d, rfl, hp, hq⟩ := hv
  have HP := Lib.hid (fun y (h : Ext w y) => hp.ext h)
  have HQ := Lib.hid (fun y (h : Ext w y) => hq.ext h)
  have HPS := Lib.hid hps
  have HM := Lib.hid hm
  clear hp hq hps
  obtain ⟨pl, hpl⟩ : ∃ x, x = R.pool := ⟨_, rfl⟩
  have HPL := Lib.hid hpl
  rw [← hpl]
  clear hpl
  go_enter Try.func11, Try.ntmps11
  go_upto_region 1 with (fail)
  go_upto_region 2 with (fail)
  obtain ⟨s0, hs0⟩ : ∃ s0, s0 = w.heap.size := ⟨_, rfl⟩
  obtain ⟨W, hW⟩ : ∃ W, W = ((w.alloc (.cells #[.int .i64 pl, .slice p R.sides.length c, .slice q R.owed.length d] 28)).alloc (.cells #[.int .i64 0, .slice none 0 0, .slice none 0 0] 28)).alloc (.cells #[.int .i64 pl, .slice p R.sides.length c, .slice q R.owed.length d] 28) := ⟨_, rfl⟩
  have m0 : W.heap[s0]? = some (.cells #[.int .i64 pl, .slice p R.sides.length c, .slice q R.owed.length d] 28) := by
    rw [hs0, hW]; exact heap_ext3 (heap_new _ _) (((Ext.refl _).alloc _).alloc _)
  have m1 : W.heap[s0 + 1]? = some (.cells #[.int .i64 0, .slice none 0 0, .slice none 0 0] 28) := by
    rw [hs0, hW]; exact heap_ext3 (heap_new2 _ _ _) ((Ext.refl _).alloc _)
  have m2 : W.heap[s0 + 2]? = some (.cells #[.int .i64 pl, .slice p R.sides.length c, .slice q R.owed.length d] 28) := by rw [hs0, hW]; exact heap_new3 _ _ _ _
  have hE : Ext w W := by rw [hW]; exact (((Ext.refl w).alloc _).alloc _).alloc _
  have hsz : W.heap.size = s0 + 3 := by rw [hW, size_alloc, size_alloc, size_alloc, hs0]
  rw [← hs0, ← hW]
  rw [show s0 + 1 + 1 = s0 + 2 from rfl]
  obtain ⟨s1, hs1⟩ : ∃ s1, s1 = s0 + 1 := ⟨_, rfl⟩
  obtain ⟨s2, hs2⟩ : ∃ s2, s2 = s0 + 2 := ⟨_, rfl⟩
  rw [← hs1] at m1 ⊢
  rw [← hs2] at m2 ⊢
  have HSS := Lib.hid (show s0 = w.heap.size ∧ s1 = s0 + 1 ∧ s2 = s0 + 2 ∧ W.heap.size = s0 + 3 from ⟨hs0, hs1, hs2, hsz⟩)
  have HM0 := Lib.hid m0
  have HM1 := Lib.hid m1
  have HM2 := Lib.hid m2
  have HE := Lib.hid hE
  have a2 : ∀ o, (W.alloc o).cell? ⟨s0, 2, none⟩ = some (.slice q R.owed.length d) := fun o => cell_of_heap (heap_ext3 m0 ((Ext.refl _).alloc o)) 2
  clear hW m0 m1 m2 hE hs0 hs1 hs2 hsz
  go_wp2_with (at_builtin; refine wpList_row_ofC rfl (.tmp 6) (.tmp 8) rfl W.heap.size rfl (World.ownsRow_made W #[] 0 (Nat.le_refl _) (by decide) rfl) (by rw [size_alloc]; omega) q R.owed d rfl (HQ.out _ (HE.out.alloc _)) hl ?_)
  intro g cn w2 hown hgr
  have hF := grown_fr hgr
  have hne0 : ∀ k, k < W.heap.size → ¬(some W.heap.size = some k) := fun k hk e => by cases e; omega
  have keep : ∀ (b : Nat) (o : Obj), W.heap[b]? = some o → w2.heap[b]? = some o := fun b o ho => by
    have hb := (Array.getElem?_eq_some_iff.1 ho).1
    exact (hF.block b (by rw [size_alloc]; omega) (hne0 b hb)).trans (heap_ext3 ho ((Ext.refl W).alloc _))
  have m0 := keep _ _ HM0.out
  have m1 := keep _ _ HM1.out
  have m2 := keep _ _ HM2.out
  have hE2 : Ext w w2 := Below.grown (HE.out.alloc _) hgr (by rw [size_alloc]; have := HE.out.size; omega) (fun j hj => by cases hj; exact HE.out.size)
  have hs2 : W.heap.size ≤ w2.heap.size := by have := hF.size; rw [size_alloc] at this; omega
  have d1 : w2.cell? ⟨s2, 1, none⟩ = some (.slice p R.sides.length c) := cell_of_heap m2 1
  have d2 : w2.cell? ⟨s2, 2, none⟩ = some (.slice q R.owed.length d) := cell_of_heap m2 2
  have b1 : w2.frozen? ⟨s2, 1, none⟩ = false := cell_frozen m2 1
  have b2 : w2.frozen? ⟨s2, 2, none⟩ = false := cell_frozen m2 2
  have HM0 := Lib.hid m0
  have HM1 := Lib.hid m1
  have HM2 := Lib.hid m2
  have HE2 := Lib.hid hE2
  have HOX := Lib.hid hown
  have HS2 := Lib.hid hs2
  clear hF hne0 keep m0 m1 m2 hE2 hs2 hown hgr a2
  go_upto_region 3 with (fail)
  obtain ⟨W3, hW3⟩ : ∃ W3, W3 = (w2.setCell ⟨s2, 1, none⟩ (.slice none 0 0)).setCell ⟨s2, 2, none⟩ (.slice (some ⟨g, 0, none⟩) R.owed.length cn) := ⟨_, rfl⟩
  rw [← hW3]
  obtain ⟨hs0, hs1, hs2, hsz⟩ := HSS.out
  have n2 : W3.heap[s2]? = some (.cells #[.int .i64 pl, .slice none 0 0, .slice (some ⟨g, 0, none⟩) R.owed.length cn] 28) := by rw [hW3]; exact heap_set (heap_set HM2.out rfl) rfl
  have n1 : W3.heap[s1]? = some (.cells #[.int .i64 0, .slice none 0 0, .slice none 0 0] 28) := by rw [hW3]; exact heap_set_ne (by omega) (heap_set_ne (by omega) HM1.out)
  have n0 : W3.heap[s0]? = some (.cells #[.int .i64 pl, .slice p R.sides.length c, .slice q R.owed.length d] 28) := by rw [hW3]; exact heap_set_ne (by omega) (heap_set_ne (by omega) HM0.out)
  have hE3 : Ext w W3 := by rw [hW3]; exact Ext.setCell (Ext.setCell HE2.out (p := ⟨s2, 1, none⟩) (by show w.heap.size ≤ s2; omega) _) (p := ⟨s2, 2, none⟩) (by show w.heap.size ≤ s2; omega) _
  have hO3 : W3.ownsRow W.heap.size 3 1 (.slice (some ⟨g, 0, none⟩) R.owed.length cn) R.owed.length (intVs R.owed) := by rw [hW3]; exact ownsRow_off (ownsRow_off HOX.out (by omega)) (by omega)
  have hs3 : W.heap.size ≤ W3.heap.size := by rw [hW3]; simp only [World.setCell, Array.size_modify]; exact HS2.out
  have HN0 := Lib.hid n0
  have HN1 := Lib.hid n1
  have HN2 := Lib.hid n2
  have HE3 := Lib.hid hE3
  have HO3 := Lib.hid hO3
  have HS3 := Lib.hid hs3
  clear hW3 n0 n1 n2 hE3 hO3 hs3 d1 d2 b1 b2 hs0 hs1 hs2 hsz
  go_wp2
  go_loopw [4] (fun i wr => ∃ (k : Nat) (u : Value) (vs : List Value), k ≤ R.sides.length ∧ i = .int .i64 k ∧ Ext w wr ∧ W.heap.size ≤ wr.heap.size ∧ SdR wr W.heap.size u vs (R.sides.take k) ∧
    wr.ownsRow W.heap.size 3 1 (.slice (some ⟨g, 0, none⟩) R.owed.length cn) R.owed.length (intVs R.owed) ∧
    wr.heap[s0]? = some (.cells #[.int .i64 pl, .slice p R.sides.length c, .slice q R.owed.length d] 28) ∧ wr.heap[s1]? = some (.cells #[.int .i64 0, .slice none 0 0, .slice none 0 0] 28) ∧
    wr.heap[s2]? = some (.cells #[.int .i64 pl, u, .slice (some ⟨g, 0, none⟩) R.owed.length cn] 28)) (fun i _ => R.sides.length - (intOf i).toNat)
  case atStart => exact ⟨0, _, [], Nat.zero_le _, rfl, HE3.out, HS3.out, SdR.nil _ _, HO3.out, HN0.out, HN1.out, HN2.out⟩
  case round =>
    obtain ⟨k, u, vs, hk, rfl, hE, hsz, hR, hO, n0, n1, n2⟩ := hrel
    obtain ⟨wo, rfl⟩ : ∃ wo, wo = wr := ⟨_, rfl⟩
    have HEO := Lib.hid hE
    have HSO := Lib.hid hsz
    have HR := Lib.hid hR
    have HO := Lib.hid hO
    have HN0 := Lib.hid n0
    have HN1 := Lib.hid n1
    have HN2 := Lib.hid n2
    have a1 : wo.cell? ⟨s0, 1, none⟩ = some (.slice p R.sides.length c) := cell_of_heap n0 1
    clear hE hsz hR hO n0 n1 n2
    by_cases hlt : k < R.sides.length
    · have hlt' : (k : Int) < (R.sides.length : Int) := by omega
      obtain ⟨rb, ro, p1, d1, hpp, r0, r1, r2⟩ := HP.out _ HEO.out k hlt
      subst hpp
      have hsm := HPS.out _ (List.getElem_mem hlt)
      have htk := take_snoc hlt
      obtain ⟨s, hs⟩ : ∃ s, s = R.sides[k] := ⟨_, rfl⟩
      rw [← hs] at r0 r1 r2 hsm htk
      obtain ⟨ps, hps⟩ : ∃ x, x = s.plays := ⟨_, rfl⟩
      rw [← hps] at r0
      have HPSL := Lib.hid hps
      have HPA := Lib.hid (fun y (h : Ext wo y) => r2.ext h)
      have HSM := Lib.hid (by omega : s.parts.length * 16 ≤ 140737488355328)
      have HKC := Lib.hid (fun y (h : Ext wo y) => (⟨h.cell (cell_of_heap HN2.out 1), h.cell (cell_of_heap HN0.out 1), h.cell r0, h.cell r1⟩ :
        y.cell? ⟨s2, 1, none⟩ = some u ∧ y.cell? ⟨s0, 1, none⟩ = some (.slice (some ⟨rb, ro, none⟩) R.sides.length c) ∧ y.cell? ⟨rb, ro + k * 2, none⟩ = some (.int .i64 ps) ∧ y.cell? ⟨rb, ro + k * 2 + 1, none⟩ = some (.slice p1 s.parts.length d1)))
      have HTK := Lib.hid htk
      have HPS := HPSL
      clear r0 r1 r2 hsm hs htk hps
      go_upto_region 6 with (fail)
      clear a1
      refine wp_region_facts 18 [[], [0], [], [2], [], [3, 4], [5], [6], [], [], [9], [], [10, 11], [12], [13], [8, 14], [7, 15], [16]] [1, 17] Ext (FL [Is (.pointer (some ⟨s2, 1, none⟩)), Is (u), Is (.pointer (some ⟨s0, 1, none⟩)), Is (.slice (some ⟨rb, ro, none⟩) R.sides.length c), Is (.int .i64 (k : Int)), Is (.pointer (some ⟨rb, ro + k * 2, none⟩)), Is (.pointer (some ⟨rb, ro + k * 2, none⟩)), Is (.int .i64 ps), EmB wo.heap.size 104, Is (.pointer (some ⟨s0, 1, none⟩)), Is (.slice (some ⟨rb, ro, none⟩) R.sides.length c), Is (.int .i64 (k : Int)), Is (.pointer (some ⟨rb, ro + k * 2, none⟩)), Is (.pointer (some ⟨rb, ro + k * 2 + 1, none⟩)), Is (.slice p1 s.parts.length d1), RwB wo.heap.size 104 s.parts, SdF wo.heap.size s, OneSd wo.heap.size s]) (by kernel_rfl) (by kernel_rfl) Ext.refl (fun _ _ _ => Ext.trans) (fun _ _ => Ext.size) (FL.mono ⟨Is.mono, Is.mono, Is.mono, Is.mono, Is.mono, Is.mono, Is.mono, Is.mono, EmB.mono, Is.mono, Is.mono, Is.mono, Is.mono, Is.mono, Is.mono, RwB.mono, SdF.mono, OneSd.mono, trivial⟩) ⟨?_, ?_, ?_, ?_, ?_, ?_, ?_, ?_, ?_, ?_, ?_, ?_, ?_, ?_, ?_, ?_, ?_, ?_, trivial⟩ ?_
      · refine opF_step ?_
        intro ys l0 h0 w' hr hf K hK
        clear hf
        simp only [fill, Act.put, dstO, List.take_succ_cons, List.take_zero, List.setIfInBounds_toArray, List.set_cons_zero, List.set_cons_succ, List.getElem?_cons_zero, Nat.zero_add, Nat.reduceAdd] at hK ⊢
        refine OpB.mk' ?_
        go_simp
        exact hK.out _ _ rfl (Ext.refl _)
      · refine opF_step ?_
        intro ys l0 h0 w' hr hf K hK
        obtain ⟨f0, -⟩ := hf
        have e0 : ys 0 = _ := f0
        obtain ⟨j0, j1, j2, j3⟩ := HKC.out w' ((Ext.refl wo).drew.trans hr)
        simp only [fill, Act.put, dstO, List.take_succ_cons, List.take_zero, List.setIfInBounds_toArray, List.set_cons_zero, List.set_cons_succ, List.getElem?_cons_zero, List.getElem?_cons_succ, Nat.zero_add, Nat.reduceAdd] at hK ⊢
        simp only [e0] at hK ⊢
        clear e0 f0
        refine OpB.mk' ?_
        go_simp
        exact hK.out _ _ rfl (Ext.refl _)
      · refine opF_step ?_
        intro ys l0 h0 w' hr hf K hK
        clear hf
        simp only [fill, Act.put, dstO, List.take_succ_cons, List.take_zero, List.setIfInBounds_toArray, List.set_cons_zero, List.set_cons_succ, List.getElem?_cons_zero, List.getElem?_cons_succ, Nat.zero_add, Nat.reduceAdd] at hK ⊢
        refine OpB.mk' ?_
        go_simp
        exact hK.out _ _ rfl (Ext.refl _)
      · refine opF_step ?_
        intro ys l0 h0 w' hr hf K hK
        obtain ⟨f0, -⟩ := hf
        have e0 : ys 2 = _ := f0
        obtain ⟨j0, j1, j2, j3⟩ := HKC.out w' ((Ext.refl wo).drew.trans hr)
        simp only [fill, Act.put, dstO, List.take_succ_cons, List.take_zero, List.setIfInBounds_toArray, List.set_cons_zero, List.set_cons_succ, List.getElem?_cons_zero, List.getElem?_cons_succ, Nat.zero_add, Nat.reduceAdd] at hK ⊢
        simp only [e0] at hK ⊢
        clear e0 f0
        refine OpB.mk' ?_
        go_simp
        exact hK.out _ _ rfl (Ext.refl _)
      · refine opF_step ?_
        intro ys l0 h0 w' hr hf K hK
        clear hf
        simp only [fill, Act.put, dstO, List.take_succ_cons, List.take_zero, List.setIfInBounds_toArray, List.set_cons_zero, List.set_cons_succ, List.getElem?_cons_zero, List.getElem?_cons_succ, Nat.zero_add, Nat.reduceAdd] at hK ⊢
        refine OpB.mk' ?_
        go_simp
        exact hK.out _ _ rfl (Ext.refl _)
      · refine opF_step ?_
        intro ys l0 h0 w' hr hf K hK
        obtain ⟨f0, f1, -⟩ := hf
        have e0 : ys 3 = _ := f0
        have e1 : ys 4 = _ := f1
        simp only [fill, Act.put, dstO, List.take_succ_cons, List.take_zero, List.setIfInBounds_toArray, List.set_cons_zero, List.set_cons_succ, List.getElem?_cons_zero, List.getElem?_cons_succ, Nat.zero_add, Nat.reduceAdd] at hK ⊢
        simp only [e0, e1] at hK ⊢
        clear e0 e1 f0 f1
        refine OpB.mk' ?_
        go_simp
        exact hK.out _ _ rfl (Ext.refl _)
      · refine opF_step ?_
        intro ys l0 h0 w' hr hf K hK
        obtain ⟨f0, -⟩ := hf
        have e0 : ys 5 = _ := f0
        simp only [fill, Act.put, dstO, List.take_succ_cons, List.take_zero, List.setIfInBounds_toArray, List.set_cons_zero, List.set_cons_succ, List.getElem?_cons_zero, List.getElem?_cons_succ, Nat.zero_add, Nat.reduceAdd] at hK ⊢
        simp only [e0] at hK ⊢
        clear e0 f0
        refine OpB.mk' ?_
        go_simp
        exact hK.out _ _ rfl (Ext.refl _)
      · refine opF_step ?_
        intro ys l0 h0 w' hr hf K hK
        obtain ⟨f0, -⟩ := hf
        have e0 : ys 6 = _ := f0
        obtain ⟨j0, j1, j2, j3⟩ := HKC.out w' ((Ext.refl wo).drew.trans hr)
        simp only [fill, Act.put, dstO, List.take_succ_cons, List.take_zero, List.setIfInBounds_toArray, List.set_cons_zero, List.set_cons_succ, List.getElem?_cons_zero, List.getElem?_cons_succ, Nat.zero_add, Nat.reduceAdd] at hK ⊢
        simp only [e0] at hK ⊢
        clear e0 f0
        refine OpB.mk' ?_
        go_simp
        exact hK.out _ _ rfl (Ext.refl _)
      · refine opF_step ?_
        intro ys l0 h0 w' hr hf K hK
        clear hf
        simp only [fill, Act.put, dstO, List.take_succ_cons, List.take_zero, List.setIfInBounds_toArray, List.set_cons_zero, List.set_cons_succ, List.getElem?_cons_zero, List.getElem?_cons_succ, Nat.zero_add, Nat.reduceAdd] at hK ⊢
        refine OpB.mk' ?_
        go_simp
        exact hK.out _ _ ⟨rfl, World.ownsRow_made w' #[] 0 (Ext.size ((Ext.refl wo).drew.trans hr)) (by decide) rfl⟩ (Ext.alloc (Ext.refl _) _)
      · refine opF_step ?_
        intro ys l0 h0 w' hr hf K hK
        clear hf
        simp only [fill, Act.put, dstO, List.take_succ_cons, List.take_zero, List.setIfInBounds_toArray, List.set_cons_zero, List.set_cons_succ, List.getElem?_cons_zero, List.getElem?_cons_succ, Nat.zero_add, Nat.reduceAdd] at hK ⊢
        refine OpB.mk' ?_
        go_simp
        exact hK.out _ _ rfl (Ext.refl _)
      · refine opF_step ?_
        intro ys l0 h0 w' hr hf K hK
        obtain ⟨f0, -⟩ := hf
        have e0 : ys 9 = _ := f0
        obtain ⟨j0, j1, j2, j3⟩ := HKC.out w' ((Ext.refl wo).drew.trans hr)
        simp only [fill, Act.put, dstO, List.take_succ_cons, List.take_zero, List.setIfInBounds_toArray, List.set_cons_zero, List.set_cons_succ, List.getElem?_cons_zero, List.getElem?_cons_succ, Nat.zero_add, Nat.reduceAdd] at hK ⊢
        simp only [e0] at hK ⊢
        clear e0 f0
        refine OpB.mk' ?_
        go_simp
        exact hK.out _ _ rfl (Ext.refl _)
      · refine opF_step ?_
        intro ys l0 h0 w' hr hf K hK
        clear hf
        simp only [fill, Act.put, dstO, List.take_succ_cons, List.take_zero, List.setIfInBounds_toArray, List.set_cons_zero, List.set_cons_succ, List.getElem?_cons_zero, List.getElem?_cons_succ, Nat.zero_add, Nat.reduceAdd] at hK ⊢
        refine OpB.mk' ?_
        go_simp
        exact hK.out _ _ rfl (Ext.refl _)
      · refine opF_step ?_
        intro ys l0 h0 w' hr hf K hK
        obtain ⟨f0, f1, -⟩ := hf
        have e0 : ys 10 = _ := f0
        have e1 : ys 11 = _ := f1
        simp only [fill, Act.put, dstO, List.take_succ_cons, List.take_zero, List.setIfInBounds_toArray, List.set_cons_zero, List.set_cons_succ, List.getElem?_cons_zero, List.getElem?_cons_succ, Nat.zero_add, Nat.reduceAdd] at hK ⊢
        simp only [e0, e1] at hK ⊢
        clear e0 e1 f0 f1
        refine OpB.mk' ?_
        go_simp
        exact hK.out _ _ rfl (Ext.refl _)
      · refine opF_step ?_
        intro ys l0 h0 w' hr hf K hK
        obtain ⟨f0, -⟩ := hf
        have e0 : ys 12 = _ := f0
        simp only [fill, Act.put, dstO, List.take_succ_cons, List.take_zero, List.setIfInBounds_toArray, List.set_cons_zero, List.set_cons_succ, List.getElem?_cons_zero, List.getElem?_cons_succ, Nat.zero_add, Nat.reduceAdd] at hK ⊢
        simp only [e0] at hK ⊢
        clear e0 f0
        refine OpB.mk' ?_
        go_simp
        exact hK.out _ _ rfl (Ext.refl _)
      · refine opF_step ?_
        intro ys l0 h0 w' hr hf K hK
        obtain ⟨f0, -⟩ := hf
        have e0 : ys 13 = _ := f0
        obtain ⟨j0, j1, j2, j3⟩ := HKC.out w' ((Ext.refl wo).drew.trans hr)
        simp only [fill, Act.put, dstO, List.take_succ_cons, List.take_zero, List.setIfInBounds_toArray, List.set_cons_zero, List.set_cons_succ, List.getElem?_cons_zero, List.getElem?_cons_succ, Nat.zero_add, Nat.reduceAdd] at hK ⊢
        simp only [e0] at hK ⊢
        clear e0 f0
        refine OpB.mk' ?_
        go_simp
        exact hK.out _ _ rfl (Ext.refl _)
      · refine opF_step ?_
        intro ys l0 h0 w' hr hf K hK
        obtain ⟨f0, f1, -⟩ := hf
        obtain ⟨e0, o0⟩ := f0
        have e1 : ys 14 = _ := f1
        rw [e0] at o0
        simp only [fill, Act.put, dstO, List.take_succ_cons, List.take_zero, List.setIfInBounds_toArray, List.set_cons_zero, List.set_cons_succ, List.getElem?_cons_zero, List.getElem?_cons_succ, Nat.zero_add, Nat.reduceAdd] at hK ⊢
        simp only [e0, e1] at hK ⊢
        clear e0 e1 f1
        refine OpB.mkG rfl (wp_pairs_of (.tmp 27) (.tmp 33) 70 104 rfl Try.underlying70 info_pt wo.heap.size (l0 8) (Ext.size ((Ext.refl wo).drew.trans hr)) rfl o0 p1 s.parts d1 rfl (HPA.out w' ((Ext.refl wo).drew.trans hr)) HSM.out ?_)
        intro z w2 hf2 hE2
        exact hK.out z w2 hf2 hE2
      · refine opF_step ?_
        intro ys l0 h0 w' hr hf K hK
        obtain ⟨f0, f1, -⟩ := hf
        have e0 : ys 7 = _ := f0
        obtain ⟨g0, cn0, e1, o1⟩ := f1
        rw [e1] at o1
        simp only [fill, Act.put, dstO, List.take_succ_cons, List.take_zero, List.setIfInBounds_toArray, List.set_cons_zero, List.set_cons_succ, List.getElem?_cons_zero, List.getElem?_cons_succ, Nat.zero_add, Nat.reduceAdd] at hK ⊢
        simp only [e0, e1] at hK ⊢
        clear e0 e1 f0
        refine OpB.mk' ?_
        go_simp
        exact hK.out _ _ ⟨g0, cn0, by rw [HPS.out], o1⟩ (Ext.refl _)
      · refine opF_step ?_
        intro ys l0 h0 w' hr hf K hK
        obtain ⟨f0, -⟩ := hf
        obtain ⟨g0, cn0, e0, o0⟩ := f0
        simp only [fill, Act.put, dstO, List.take_succ_cons, List.take_zero, List.setIfInBounds_toArray, List.set_cons_zero, List.set_cons_succ, List.getElem?_cons_zero, List.getElem?_cons_succ, Nat.zero_add, Nat.reduceAdd] at hK ⊢
        simp only [e0] at hK ⊢
        clear e0
        refine OpB.mk' ?_
        go_simp
        exact hK.out _ _ ⟨_, g0, cn0, rfl, heap_new _ _, ownsRow_ext o0 (Ext.alloc (Ext.refl _) _)⟩ (Ext.alloc (Ext.refl _) _)
      intro ys l0 h0 w2 hr hf hsp
      obtain ⟨f1, f17, -⟩ := hf
      have e1 : ys 1 = _ := f1
      obtain ⟨gn, gp, cp, e17, hn, hmo⟩ := f17
      simp only [fill, Act.put, List.take_succ_cons, List.take_zero, List.setIfInBounds_toArray, List.set_cons_zero, List.set_cons_succ, Nat.zero_add, Nat.reduceAdd, List.drop_succ_cons, List.drop_zero]
      rw [e1]
      clear e1 f1
      rw [e17]
      clear hsp
      have hEY : Ext wo w2 := (Ext.refl wo).drew.trans hr
      have HEY := Lib.hid hEY
      have HN := Lib.hid hn
      have HMO := Lib.hid hmo
      obtain ⟨i0, hi, hz0, hz1, hz2⟩ := info_parts info_sd
      have HI0 := Lib.hid (⟨hi, hz0, hz1, hz2⟩ : _ ∧ _ ∧ _ ∧ _)
      clear hr hEY hn hmo e17 HKC hi hz0 hz1 hz2
      have hlk : (R.sides.take k).length = k := by rw [List.length_take]; omega
      have HLK := Lib.hid hlk
      have hszw := HEY.out.size
      have hszo := HSO.out
      clear hlk
      go_wp2_with (at_builtin; refine wpList_append_lies _ rfl (.tmp 20) (.tmp 36) 25 rfl W.heap.size 72 i0 (.agg #[.int .i64 0, .slice none 0 0]) 2 32 Try.underlying25 HI0.out.1 HI0.out.2.1 HI0.out.2.2.1 HI0.out.2.2.2 rfl (by decide) _ (R.sides.take k).length vs rfl (ownsRow_ext HR.out.out HEY.out) ⟨gn, 0, none⟩ 1 1 [.int .i64 s.plays, .slice (some ⟨gp, 0, none⟩) s.parts.length cp] rfl rfl ?c1 ?c2 (by decide) ?c3 ?c4 ?c5 w2.heap.size rfl ?_)
      case c1 =>
        intro j x hj
        match j, hj with
        | 0, hj => simp at hj; subst hj; exact cell_of_heap HN.out 0
        | 1, hj => simp at hj; subst hj; exact cell_of_heap HN.out 1
      case c2 =>
        intro x hx
        simp at hx
        rcases hx with rfl | rfl <;> rfl
      case c3 => have := HLK.out; unfold maxLen; omega
      case c4 => have := HLK.out; omega
      case c5 => omega
      intro g5 cap5 w5 hown5 hgr5 hat5 hlt5
      obtain ⟨hs0, hs1, hs2, hsz⟩ := HSS.out
      have hF := grown_fr hgr5
      have hub : ∀ j, u.ownBlock = some j → W.heap.size ≤ j := by
        intro j hj
        rcases HR.out.out.2 with ⟨hv, -⟩ | ⟨g', cap', cur', hv, hB, -⟩
        · rw [hv] at hj; cases hj
        · rw [hv] at hj; cases hj; exact hB
      have keep : ∀ (b : Nat) (o : Obj), b < W.heap.size → wo.heap[b]? = some o → w5.heap[b]? = some o := fun b o hb ho =>
        (hF.block b (by omega) (fun h => absurd (hub _ h) (by omega))).trans (heap_ext3 ho HEY.out)
      have m0 := keep _ _ (by omega) HN0.out
      have m1 := keep _ _ (by omega) HN1.out
      have m2 := keep _ _ (by omega) HN2.out
      have hO5 : w5.ownsRow W.heap.size 3 1 (.slice (some ⟨g, 0, none⟩) R.owed.length cn) R.owed.length (intVs R.owed) := by
        have h' := ownsRow_ext HO.out HEY.out
        refine ownsRow_fr h' hF fun x hx hux => ?_
        cases hx
        rcases HR.out.out.2 with ⟨hv, -⟩ | ⟨g', cap', cur', hv, -⟩
        · rw [hv] at hux; cases hux
        · have hout := ownsRow_ext HR.out.out HEY.out
          rw [hv] at hux hout
          cases hux
          exact own_ne h' hout (by decide) rfl
      have hR5 := SdR.step HR.out HEY.out HMO.out HSO.out (by rw [HLK.out]; exact hown5) hgr5
      rw [← HTK.out] at hR5
      have hE5 : Ext w w5 := Below.grown (HEO.out.trans HEY.out) hgr5 (HEO.out.trans HEY.out).size (fun j hj => by have := hub j hj; omega)
      have hs5 : W.heap.size ≤ w5.heap.size := by have := hF.size; omega
      have d0 : w5.cell? ⟨s2, 1, none⟩ = some u := cell_of_heap m2 1
      have b0 : w5.frozen? ⟨s2, 1, none⟩ = false := cell_frozen m2 1
      have HM0 := Lib.hid m0
      have HM1 := Lib.hid m1
      have HM2 := Lib.hid m2
      have HO5 := Lib.hid hO5
      have HR5 := Lib.hid hR5
      have HE5 := Lib.hid hE5
      have HS5 := Lib.hid hs5
      clear m0 m1 m2 hO5 hR5 hE5 hs5 hub keep hF hown5 hgr5 hat5 hlt5 hs0 hs1 hs2 hsz
      go_upto_region 5 with (fail)
      obtain ⟨W6, hW6⟩ : ∃ W6, W6 = w5.setCell ⟨s2, 1, none⟩ (.slice (some ⟨g5, 0, none⟩) (k + 1) cap5) := ⟨_, rfl⟩
      obtain ⟨hs0, hs1, hs2, hsz⟩ := HSS.out
      have m2 : W6.heap[s2]? = some (.cells #[.int .i64 pl, .slice (some ⟨g5, 0, none⟩) (k + 1) cap5, .slice (some ⟨g, 0, none⟩) R.owed.length cn] 28) := by rw [hW6]; exact heap_set HM2.out rfl
      have m0 := HM0.out
      have m1 := HM1.out
      have hE6 : Ext w W6 := by rw [hW6]; exact Ext.setCell HE5.out (p := ⟨s2, 1, none⟩) (by show w.heap.size ≤ s2; omega) _
      have hO6 : W6.ownsRow W.heap.size 3 1 (.slice (some ⟨g, 0, none⟩) R.owed.length cn) R.owed.length (intVs R.owed) := by rw [hW6]; exact ownsRow_off HO5.out (by omega)
      have hR6 : SdR W6 W.heap.size (.slice (some ⟨g5, 0, none⟩) (k + 1) cap5) (vs ++ [.int .i64 s.plays, .slice (some ⟨gp, 0, none⟩) s.parts.length cp]) (R.sides.take (k + 1)) := by rw [hW6]; exact SdR.off HR5.out (by omega)
      have hs6 : W.heap.size ≤ W6.heap.size := by rw [hW6]; simp only [World.setCell, Array.size_modify]; exact HS5.out
      have m0 : W6.heap[s0]? = some (.cells #[.int .i64 pl, .slice (some ⟨rb, ro, none⟩) R.sides.length c, .slice q R.owed.length d] 28) := by rw [hW6]; exact heap_set_ne (by omega) m0
      have m1 : W6.heap[s1]? = some (.cells #[.int .i64 0, .slice none 0 0, .slice none 0 0] 28) := by rw [hW6]; exact heap_set_ne (by omega) m1
      rw [← hW6]
      have HM0 := Lib.hid m0
      have HM1 := Lib.hid m1
      have HM2 := Lib.hid m2
      have HE6 := Lib.hid hE6
      have HO6 := Lib.hid hO6
      have HR6 := Lib.hid hR6
      have HS6 := Lib.hid hs6
      have hm1000 := HM.out
      clear hW6 m0 m1 m2 hE6 hO6 hR6 hs6 hs0 hs1 hs2 hsz d0 b0
      go_wp2
      go_roundw
      case rel => exact ⟨k + 1, _, _, by omega, by simp, HE6.out, HS6.out, HR6.out, HO6.out, HM0.out, HM1.out, HM2.out⟩
      case measure => simp [intOf]; omega
    · obtain rfl : k = R.sides.length := by omega
      have hge : ¬(R.sides.length : Int) < (R.sides.length : Int) := by omega
      have hR := HR.out
      rw [List.take_length] at hR
      have HR := Lib.hid hR
      obtain ⟨pu, cu, rfl, -⟩ := hR.sides
      clear hR
      have d0 : wo.cell? ⟨s2, 0, none⟩ = some (.int .i64 pl) := cell_of_heap HN2.out 0
      have d1 : wo.cell? ⟨s2, 1, none⟩ = some (.slice pu R.sides.length cu) := cell_of_heap HN2.out 1
      have d2 : wo.cell? ⟨s2, 2, none⟩ = some (.slice (some ⟨g, 0, none⟩) R.owed.length cn) := cell_of_heap HN2.out 2
      have c0 : wo.cell? ⟨s1, 0, none⟩ = some (.int .i64 0) := cell_of_heap HN1.out 0
      have c1 : wo.cell? ⟨s1, 1, none⟩ = some (.slice none 0 0) := cell_of_heap HN1.out 1
      have c2 : wo.cell? ⟨s1, 2, none⟩ = some (.slice none 0 0) := cell_of_heap HN1.out 2
      have b0 := cell_frozen HN1.out 0
      have b1 := cell_frozen HN1.out 1
      have b2 := cell_frozen HN1.out 2
      go_wp2
      obtain ⟨hs0, hs1, hs2, hsz⟩ := HSS.out
      have hR9 := ((HR.out.off (b := s1) (o := 0) (v := .int .i64 pl) (by omega)).off (b := s1) (o := 1) (v := .slice pu R.sides.length cu) (by omega)).off (b := s1) (o := 2) (v := .slice (some ⟨g, 0, none⟩) R.owed.length cn) (by omega)
      have hO9 := ownsRow_off (b := s1) (o := 2) (u := .slice (some ⟨g, 0, none⟩) R.owed.length cn) (ownsRow_off (b := s1) (o := 1) (u := .slice pu R.sides.length cu) (ownsRow_off (b := s1) (o := 0) (u := .int .i64 pl) HO.out (by omega)) (by omega)) (by omega)
      obtain ⟨pu', cu', e', hS9⟩ := hR9.sides
      cases e'
      refine copyEnd10 (s := s1) (heap_triple HN1.out) rfl rfl ⟨_, rfl, ?_, pu, cu, _, cn, by rw [HPL.out], hS9, row_ints hO9⟩
      exact Ext.setCell (p := ⟨s1, 2, none⟩) (Ext.setCell (p := ⟨s1, 1, none⟩) (Ext.setCell (p := ⟨s1, 0, none⟩) HEO.out (by show w.heap.size ≤ s1; omega) _) (by show w.heap.size ≤ s1; omega) _) (by show w.heap.size ≤ s1; omega) _
end Go.Proofs.Ytppncdbhebgcaaa
