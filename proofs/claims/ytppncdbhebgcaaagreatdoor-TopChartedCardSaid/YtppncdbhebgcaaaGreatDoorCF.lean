
/- Charts: meters in memory of their own. Charts: the walk of the reference's Copy. -/
import Derived.Test.YtppncdbhebgcaaaGreatDoorCE
import Derived.Test.YtppncdbhebgcaaaGreatDoorCB
import Derived.Test.YtppncdbhebgcaaaGreatDoorCD
import Derived.Laws.AppendOwnNone
namespace Go.Proofs.YtppncdbhebgcaaaGreatDoor
open Go.RowKit

/-- a row of meters: it, and each meter's weeks and readings, in blocks of their own -/
structure MtR (w : World) (B : Nat) (v : Value) (vs : List Value) (L : List Mt) : Prop where
  len : vs.length = L.length * 3
  out : w.ownsRow B 55 3 v L.length vs
  elt : ∀ i (h : i < L.length), ∃ g1 c1 g2 c2, vs[i * 3]? = some (.slice (some ⟨g1, 0, none⟩) L[i].weeks.length c1) ∧ vs[i * 3 + 1]? = some (.slice (some ⟨g2, 0, none⟩) L[i].reads.length c2) ∧ vs[i * 3 + 2]? = some (.int .i64 L[i].wrong) ∧
    w.ownsRow B 38 2 (.slice (some ⟨g1, 0, none⟩) L[i].weeks.length c1) L[i].weeks.length (pairVs L[i].weeks) ∧ w.ownsRow B 108 2 (.slice (some ⟨g2, 0, none⟩) L[i].reads.length c2) L[i].reads.length (pairVs L[i].reads)
  dis : ∀ i j a b n m c d, i < j → vs[i * 3 + 1]? = some (.slice (some a) n c) → vs[j * 3 + 1]? = some (.slice (some b) m d) → a.block ≠ b.block
theorem MtR.nil (w : World) (B : Nat) : MtR w B (.slice none 0 0) [] [] := ⟨rfl, World.ownsRow_nil _ _ _ _, fun i h => absurd h (by simp), fun i j a b n m c d _ h => by simp at h⟩
theorem MtR.ext {w w' : World} {B : Nat} {v : Value} {vs : List Value} {L : List Mt} (h : MtR w B v vs L) (hE : Ext w w') : MtR w' B v vs L :=
  ⟨h.len, ownsRow_ext h.out hE, fun i hi => by obtain ⟨g1, c1, g2, c2, e0, e1, e2, o1, o2⟩ := h.elt i hi; exact ⟨g1, c1, g2, c2, e0, e1, e2, ownsRow_ext o1 hE, ownsRow_ext o2 hE⟩, h.dis⟩
theorem MtR.blk {w : World} {B : Nat} {v : Value} {vs : List Value} {L : List Mt} (h : MtR w B v vs L) : ∀ i, i < L.length → ∀ a n c, vs[i * 3 + 1]? = some (.slice (some a) n c) → a.block < w.heap.size := by
  intro i hi a n c ha
  obtain ⟨g1, c1, g2, c2, e0, e1, e2, o1, o2⟩ := h.elt i hi
  rw [e1] at ha
  cases ha
  exact (o2.lt g2 rfl).2
theorem MtR.step {wr w2 w4 : World} {B B2 n g4 cap4 : Nat} {u a0 a1 a2 : Value} {vs : List Value} {L : List Mt} {M : Mt} (h : MtR wr B u vs L) (hE : Ext wr w2)
    (hM : MtOwn B2 w2 (.agg #[a0, a1, a2]) M) (hB : B ≤ B2) (hB2 : wr.heap.size ≤ B2)
    (h4 : w4.ownsRow B 55 3 (.slice (some ⟨g4, 0, none⟩) n cap4) (L.length + 1) (vs ++ [a0, a1, a2])) (hg : w2.grownBy w4 u.ownBlock) :
    MtR w4 B (.slice (some ⟨g4, 0, none⟩) n cap4) (vs ++ [a0, a1, a2]) (L ++ [M]) := by
  have hF := grown_fr hg
  have hl := h.len
  obtain ⟨g1, c1, g2, c2, e, o1, o2⟩ := hM
  simp only [Value.agg.injEq, Array.mk.injEq, List.cons.injEq, and_true] at e
  obtain ⟨rfl, rfl, rfl⟩ := e
  have hu := h.out.2
  have hne : ∀ {e : TypeId} {g m c : Nat} {xs : List Value} {BB : Nat}, e ≠ 55 → w2.ownsRow BB e 2 (.slice (some ⟨g, 0, none⟩) m c) m xs → ∀ x, (Value.slice (some ⟨g, 0, none⟩) m c).ownBlock = some x → ¬u.ownBlock = some x := by
    intro e g m c xs BB he ho x hx hux
    cases hx
    rcases hu with ⟨hv, -⟩ | ⟨g', cap', cur', hv, -⟩
    · rw [hv] at hux; cases hux
    · have hout := ownsRow_ext h.out hE
      rw [hv] at hux hout
      cases hux
      exact own_ne ho hout he rfl
  have hget : ∀ k, k < vs.length → ∀ xs : List Value, (vs ++ xs)[k]? = vs[k]? := fun k hk xs => List.getElem?_append_left hk
  have hget2 : ∀ k, (vs ++ [.slice (some ⟨g1, 0, none⟩) M.weeks.length c1, .slice (some ⟨g2, 0, none⟩) M.reads.length c2, .int .i64 M.wrong])[L.length * 3 + k]? = [Value.slice (some ⟨g1, 0, none⟩) M.weeks.length c1, .slice (some ⟨g2, 0, none⟩) M.reads.length c2, .int .i64 M.wrong][k]? := fun k => by
    rw [List.getElem?_append_right (by omega), hl]
    congr 1
    omega
  refine ⟨by simp [hl]; omega, by rw [List.length_append]; exact h4, fun i hi => ?_, fun i j a b n m c d hij ha hb => ?_⟩
  · by_cases hil : i < L.length
    · obtain ⟨q1, d1, q2, d2, e0, e1, e2, r1, r2⟩ := h.elt i hil
      have el : (L ++ [M])[i] = L[i] := List.getElem_append_left hil
      rw [el]
      have r1' := ownsRow_ext r1 hE
      have r2' := ownsRow_ext r2 hE
      exact ⟨q1, d1, q2, d2, by rw [hget _ (by omega)]; exact e0, by rw [hget _ (by omega)]; exact e1, by rw [hget _ (by omega)]; exact e2, ownsRow_fr r1' hF (hne (by decide) r1'), ownsRow_fr r2' hF (hne (by decide) r2')⟩
    · have hil' : i = L.length := by simp at hi; omega
      subst hil'
      have el : (L ++ [M])[L.length] = M := by simp
      rw [el]
      exact ⟨g1, c1, g2, c2, hget2 0, hget2 1, hget2 2, ownsRow_base (ownsRow_fr o1 hF (hne (by decide) o1)) hB, ownsRow_base (ownsRow_fr o2 hF (hne (by decide) o2)) hB⟩
  · by_cases hjl : j < L.length
    · rw [hget _ (by omega)] at ha hb
      exact h.dis i j a b n m c d hij ha hb
    · have hj2 : j = L.length := by
        have := (List.getElem?_eq_some_iff.1 hb).1
        simp [hl] at this
        omega
      subst hj2
      have h1 := hget2 1
      rw [hb] at h1
      simp at h1
      obtain ⟨⟨rfl, -⟩, -⟩ := h1
      rw [hget _ (by omega)] at ha
      have hlt := h.blk i hij a n c ha
      have hge := (o2.lt g2 rfl).1
      show a.block ≠ g2
      omega
theorem MtR.cells {w : World} {B : Nat} {v : Value} {vs : List Value} {L : List Mt} (h : MtR w B v vs L) : (v = .slice none 0 0 ∧ L = []) ∨ ∃ g c, v = .slice (some ⟨g, 0, none⟩) L.length c ∧ B ≤ g ∧ ∀ j, j < L.length * 3 → w.cell? ⟨g, j, none⟩ = vs[j]? := by
  rcases h.out.2 with ⟨hv, h0⟩ | ⟨g, cap, cur, hv, hB, hg, hc, -, hs, hx⟩
  · exact Or.inl ⟨hv, List.length_eq_zero_iff.1 h0⟩
  · refine Or.inr ⟨g, cap, hv, hB, fun j hj => ?_⟩
    rw [cell_of_heap hg, ← hx, List.getElem?_take, if_pos (by omega)]
    simp
theorem MtR.mts {w : World} {B : Nat} {v : Value} {vs : List Value} {L : List Mt} (h : MtR w B v vs L) : ∃ p c, v = .slice p L.length c ∧ MtsAt w p L := by
  rcases h.cells with ⟨hv, rfl⟩ | ⟨g, c, hv, -, hc⟩
  · exact ⟨none, 0, hv, fun i hi => absurd hi (by simp)⟩
  · refine ⟨_, c, hv, fun i hi => ?_⟩
    obtain ⟨g1, c1, g2, c2, e0, e1, e2, o1, o2⟩ := h.elt i hi
    exact ⟨g, 0, _, c1, _, c2, rfl, by rw [Nat.zero_add, hc _ (by omega)]; exact e0, by rw [Nat.zero_add, hc _ (by omega)]; exact e1, by rw [Nat.zero_add, hc _ (by omega)]; exact e2, row_pairs o1, row_pairs o2⟩
/-- the rows of a row of meters lie apart from a row of ints -/
theorem MtR.setI {w : World} {B B' : Nat} {u : Value} {vs : List Value} {L : List Mt} {g n c i : Nat} {xs : List Value} (v : Value) (h : MtR w B u vs L) (ho : w.ownsRow B' 3 1 (.slice (some ⟨g, 0, none⟩) n c) n xs) :
    MtR (w.setCell ⟨g, i, none⟩ v) B u vs L := by
  have hF : Fr (fun k => k = g) w (w.setCell ⟨g, i, none⟩ v) := (Fr.refl _ w).set (c := g) rfl
  have hne : ∀ {e : TypeId} {g' m c size : Nat} {xs : List Value} {BB : Nat}, e ≠ 3 → w.ownsRow BB e size (.slice (some ⟨g', 0, none⟩) m c) m xs → ∀ x, (Value.slice (some ⟨g', 0, none⟩) m c).ownBlock = some x → ¬x = g := by
    intro e g' m c size xs BB he h' x hx hxg
    cases hx
    exact own_ne h' ho he hxg
  refine ⟨h.len, ownsRow_fr h.out hF fun x hx hxg => ?_, fun i hi => ?_, h.dis⟩
  · rcases h.out.2 with ⟨hv, -⟩ | ⟨g', cap', cur', hv, -⟩
    · rw [hv] at hx; cases hx
    · have hout := h.out
      rw [hv] at hx hout
      cases hx
      exact own_ne hout ho (by decide) hxg
  · obtain ⟨g1, c1, g2, c2, e0, e1, e2, o1, o2⟩ := h.elt i hi
    exact ⟨g1, c1, g2, c2, e0, e1, e2, ownsRow_fr o1 hF (hne (by decide) o1), ownsRow_fr o2 hF (hne (by decide) o2)⟩
theorem MtR.off {w : World} {B b o : Nat} {u v : Value} {vs : List Value} {L : List Mt} (h : MtR w B u vs L) (hb : b < B) : MtR (w.setCell ⟨b, o, none⟩ v) B u vs L := by
  refine ⟨h.len, ownsRow_off h.out hb, fun i hi => ?_, h.dis⟩
  obtain ⟨g1, c1, g2, c2, e0, e1, e2, o1, o2⟩ := h.elt i hi
  exact ⟨g1, c1, g2, c2, e0, e1, e2, ownsRow_off o1 hb, ownsRow_off o2 hb⟩
theorem MtR.base {w : World} {B B' : Nat} {u : Value} {vs : List Value} {L : List Mt} (h : MtR w B u vs L) (hb : B' ≤ B) : MtR w B' u vs L := by
  refine ⟨h.len, ownsRow_base h.out hb, fun i hi => ?_, h.dis⟩
  obtain ⟨g1, c1, g2, c2, e0, e1, e2, o1, o2⟩ := h.elt i hi
  exact ⟨g1, c1, g2, c2, e0, e1, e2, ownsRow_base o1 hb, ownsRow_base o2 hb⟩
/-- a chart in memory of its own -/
def ChG (w : World) (B : Nat) (u : Value) (g cx : Nat) (C : Ch) : Prop :=
  (∃ vs, MtR w B u vs C.meters) ∧ w.ownsRow B 3 1 (.slice (some ⟨g, 0, none⟩) C.extra.length cx) C.extra.length (intVs C.extra)
theorem ChG.ext {w w' : World} {B : Nat} {u : Value} {g cx : Nat} {C : Ch} (h : ChG w B u g cx C) (hE : Ext w w') : ChG w' B u g cx C := by
  obtain ⟨⟨vs, hM⟩, hX⟩ := h
  exact ⟨⟨vs, hM.ext hE⟩, ownsRow_ext hX hE⟩
theorem ChG.ch {w : World} {B : Nat} {u : Value} {g cx : Nat} {C : Ch} (h : ChG w B u g cx C) : ChV w (.agg #[u, .slice (some ⟨g, 0, none⟩) C.extra.length cx, .int .i64 C.frm, .int .i64 C.tto]) C := by
  obtain ⟨⟨vs, hM⟩, hX⟩ := h
  obtain ⟨p, c, rfl, hp⟩ := hM.mts
  exact ⟨p, c, _, cx, rfl, hp, row_ints hX⟩
end Go.Proofs.YtppncdbhebgcaaaGreatDoor
namespace Go.Proofs.YtppncdbhebgcaaaGreatDoor
open Go.RowKit

theorem run_append_owned_nilC {P : Program} {w : World} (base : Nat) (t ty e : TypeId) (i : TypeInfo) (size : Nat) (ht : P.underlying t = some (.slice e)) (hi : P.info? e = some i)
    (v : Value) (n c : Nat) (xs : List Value) (hown : w.ownsRow base e size v n xs) :
    (Builtin.append_ #[t, t] ty #[v, .slice none 0 c]).run P w = .ok v w := by
  rcases hown.2 with ⟨rfl, rfl⟩ | ⟨g, cap, cur, rfl, _, _, hnc, _⟩
  · simp [Builtin.append_, run_underlying ht, sizeOf, typeInfo, hi, Builtin.lenOf, Builtin.firstCells]
  · simp [Builtin.append_, run_underlying ht, sizeOf, typeInfo, hi, Builtin.lenOf, Builtin.firstCells, hnc, storeCells]

theorem wpList_append_nilC {P : Program} {w : World} {ops : Array Oper} {rest : List Oper} {o : Oper} {a : Act} {Q : Exit → Act → World → Prop} (hgd : o.guard = none) (s x : Operand) (t : TypeId)
    (ho : o.op = .call { callee := .builtin .append, args := #[s, x], argTypes := #[t, t] })
    (base : Nat) (e : TypeId) (i : TypeInfo) (size : Nat) (ht : P.underlying t = some (.slice e)) (hi : P.info? e = some i)
    (v : Value) (n c : Nat) (xs : List Value) (hs : a.eval s = v) (hown : w.ownsRow base e size v n xs) (hx : a.eval x = .slice none 0 c)
    (h : wpList P ops Q rest (a.put o.dst v) w) : wpList P ops Q (o :: rest) a w := by
  refine wpList_plain hgd fun K hK => ?_
  have hrun := run_append_owned_nilC (P := P) (w := w) base t o.type e i size ht hi v n c xs hown
  unfold Oper.wp
  simp [execOp, ho, resolve, invoke, builtin, hs, hx, hrun, Result.andThen]
  exact hK _ _ h

/-- a list of numbers appended to a new empty row -/
theorem wpList_row_ofC {w : World} {ops : Array Oper} {rest : List Oper} {o : Oper} {a : Act} {Q : Exit → Act → World → Prop} (hgd : o.guard = none) (s x : Operand)
    (ho : o.op = .call { callee := .builtin .append, args := #[s, x], argTypes := #[23, 23] })
    (H : Nat) (hs : a.eval s = .slice (some ⟨H, 0, none⟩) 0 0) (hown : w.ownsRow H 3 1 (.slice (some ⟨H, 0, none⟩) 0 0) 0 []) (hH : H < w.heap.size)
    (p : Option Addr) (l : List Int) (c : Nat) (hx : a.eval x = .slice p l.length c) (hl : IntsAt w p l) (hle : l.length ≤ 1000)
    (h : ∀ g cn w', w'.ownsRow H 3 1 (.slice (some ⟨g, 0, none⟩) l.length cn) l.length (intVs l) → w.grownBy w' (some H) → wpList Tryz.prog ops Q rest (a.put o.dst (.slice (some ⟨g, 0, none⟩) l.length cn)) w') :
    wpList Tryz.prog ops Q (o :: rest) a w := by
  obtain ⟨i0, hi, hz0, hz1, hz2⟩ := info_parts info_a
  cases p with
  | none =>
    have hn : l = [] := by
      cases l with
      | nil => rfl
      | cons y r => obtain ⟨b, o', he, -⟩ := hl.at 0 (by simp); cases he
    subst hn
    exact wpList_append_nilC hgd s x 23 ho H 3 i0 1 Tryz.underlying23 hi _ 0 c [] hs hown hx (h H 0 w hown (World.grownBy.refl _ _))
  | some ad =>
    refine wpList_append_own w hgd s x 23 ho H 3 i0 (.int .i64 0) 1 8 Tryz.underlying23 hi hz0 hz1 hz2 rfl (by decide) _ 0 [] hs hown ad l.length c (intVs l) hx (by simp [intVs]) ?_ ?_ (by simp only [maxLen]; omega) (by omega) (by omega) ?_
    · intro j u hj
      have hjl : j < l.length := by have := (List.getElem?_eq_some_iff.1 hj).1; rwa [intVs_len] at this
      obtain ⟨b, o', he, hc⟩ := hl.at j hjl
      cases he
      have hu : u = .int .i64 l[j] := by
        have := (List.getElem?_eq_some_iff.1 hj).2
        simp [intVs] at this
        exact this.symm
      rw [hu, ← hc]
      by_cases h0 : j = 0
      · subst h0; rfl
      · simp [Addr.add, h0]
    · intro u hu
      obtain ⟨n, -, rfl⟩ := List.mem_map.1 hu
      rfl
    · intro v' w' ho' hg hnil
      rw [Nat.zero_add, List.nil_append] at ho'
      rcases ho'.2 with ⟨rfl, -⟩ | ⟨g, cap, cur, rfl, -⟩
      · exact absurd (hnil.1 rfl).1 (by simp)
      · exact h g cap w' (by simpa using ho') hg

def MtF (B : Nat) (M : Mt) (v : Value) (_ _ : Nat) (w : World) : Prop := MtOwn B w v M
theorem MtF.mono {B : Nat} {M : Mt} : ∀ v s t w w', Ext w w' → MtF B M v s t w → MtF B M v s t w' := fun _ _ _ _ _ hE h => MtOwn.ext h hE
theorem MtOwn.base {B B' : Nat} {w : World} {v : Value} {M : Mt} (h : MtOwn B w v M) (hB : B' ≤ B) : MtOwn B' w v M := by
  obtain ⟨g1, c1, g2, c2, e, o1, o2⟩ := h
  exact ⟨g1, c1, g2, c2, e, ownsRow_base o1 hB, ownsRow_base o2 hB⟩
/-- a new slice of one meter of its own -/
def OneM (B : Nat) (M : Mt) (v : Value) (_ _ : Nat) (w : World) : Prop := ∃ g a0 a1 a2, v = .slice (some ⟨g, 0, none⟩) 1 1 ∧ w.heap[g]? = some (.cells #[a0, a1, a2] 55) ∧ MtOwn B w (.agg #[a0, a1, a2]) M
theorem info_mt : (Tryz.prog.info? 55).map (fun i => (i.zero, i.size, i.bytes)) = some (some (.agg #[.slice none 0 0, .slice none 0 0, .int .i64 0]), 3, 56) := by kernel_rfl
theorem OneM.mono {B : Nat} {M : Mt} : ∀ v s t w w', Ext w w' → OneM B M v s t w → OneM B M v s t w' := fun _ _ _ _ _ hE ⟨g, a0, a1, a2, h1, h2, h3⟩ => ⟨g, a0, a1, a2, h1, heap_ext3 h2 hE, h3.ext hE⟩

theorem copyEnd06 {W : World} {s : Nat} {a : Act} {x0 x1 x2 x3 : Value} {ty : TypeId} {R : Ending → World → Prop} (hm : W.heap[s]? = some (.cells #[x0, x1, x2, x3] ty))
    (ha : a.tmps[2]? = some (.pointer (some ⟨s, 0, none⟩))) (hd : a.defers = [])
    (h : R (.returned (.agg #[x0, x1, x2, x3])) W) : bodyPost Tryz.prog Tryz.f9 R .ret a W := by
  have c0 := cell_of_heap hm 0
  have c1 := cell_of_heap hm 1
  have c2 := cell_of_heap hm 2
  have c3 := cell_of_heap hm 3
  simp at c0 c1 c2 c3
  refine bodyPost_ret (v := .agg #[x0, x1, x2, x3]) ?_ hd h
  cases a with
  | mk tm df =>
    simp only at ha
    simp [results, Tryz.results9, go_sem, ha, c0, c1, c2, c3]

set_option maxRecDepth 20000 in
set_option maxHeartbeats 3200000 in
theorem Copy06 (C : Ch) (v : Value) (w : World) (hv : ChV w v C) (hs : ChSm C) :
    Calls Tryz.prog 9 #[v] w (fun e w' => ∃ u g cx, e = .returned (.agg #[u, .slice (some ⟨g, 0, none⟩) C.extra.length cx, .int .i64 C.frm, .int .i64 C.tto]) ∧ Ext w w' ∧ ChG w' w.heap.size u g cx C) := by
  have HSM := Lib.hid hs
  obtain ⟨p, c, q, d, rfl, hp, hq⟩ := hv
  have HP := Lib.hid (fun y (h : Ext w y) => hp.ext h)
  have HQ := Lib.hid (fun y (h : Ext w y) => hq.ext h)
  clear hp hq hs
  go_enter Tryz.func9, Tryz.ntmps9
  go_upto_region 1 with (fail)
  go_upto_region 2 with (fail)
  obtain ⟨s0, hs0⟩ : ∃ s0, s0 = w.heap.size := ⟨_, rfl⟩
  obtain ⟨W, hW⟩ : ∃ W, W = ((w.alloc (.cells #[.slice p C.meters.length c, .slice q C.extra.length d, .int .i64 C.frm, .int .i64 C.tto] 25)).alloc (.cells #[.slice none 0 0, .slice none 0 0, .int .i64 0, .int .i64 0] 25)).alloc
    (.cells #[.slice p C.meters.length c, .slice q C.extra.length d, .int .i64 C.frm, .int .i64 C.tto] 25) := ⟨_, rfl⟩
  have m0 : W.heap[s0]? = some (.cells #[.slice p C.meters.length c, .slice q C.extra.length d, .int .i64 C.frm, .int .i64 C.tto] 25) := by
    rw [hs0, hW]; exact heap_ext3 (heap_new _ _) (((Ext.refl _).alloc _).alloc _)
  have m1 : W.heap[s0 + 1]? = some (.cells #[.slice none 0 0, .slice none 0 0, .int .i64 0, .int .i64 0] 25) := by
    rw [hs0, hW]; exact heap_ext3 (heap_new2 _ _ _) ((Ext.refl _).alloc _)
  have m2 : W.heap[s0 + 2]? = some (.cells #[.slice p C.meters.length c, .slice q C.extra.length d, .int .i64 C.frm, .int .i64 C.tto] 25) := by rw [hs0, hW]; exact heap_new3 _ _ _ _
  have hE : Ext w W := by rw [hW]; exact (((Ext.refl w).alloc _).alloc _).alloc _
  have hsz : W.heap.size = s0 + 3 := by rw [hW, size_alloc, size_alloc, size_alloc, hs0]
  rw [← hs0, ← hW]
  rw [show s0 + 1 + 1 = s0 + 2 from rfl]
  obtain ⟨s1, hs1⟩ : ∃ s1, s1 = s0 + 1 := ⟨_, rfl⟩
  obtain ⟨s2, hs2⟩ : ∃ s2, s2 = s0 + 2 := ⟨_, rfl⟩
  rw [← hs1] at m1 ⊢
  rw [← hs2] at m2 ⊢
  have HSS := Lib.hid (show s0 = w.heap.size ∧ s1 = s0 + 1 ∧ s2 = s0 + 2 ∧ W.heap.size = s0 + 3 from ⟨hs0, hs1, hs2, hsz⟩)
  have HM0 := Lib.hid m0
  have HM1 := Lib.hid m1
  have HM2 := Lib.hid m2
  have HE := Lib.hid hE
  have a0 : ∀ o, (W.alloc o).cell? ⟨s0, 0, none⟩ = some (.slice p C.meters.length c) := fun o => cell_of_heap (heap_ext3 m0 ((Ext.refl _).alloc o)) 0
  have a1 : ∀ o, (W.alloc o).cell? ⟨s0, 1, none⟩ = some (.slice q C.extra.length d) := fun o => cell_of_heap (heap_ext3 m0 ((Ext.refl _).alloc o)) 1
  have HX := Lib.hid (HSM.out.nx)
  clear hW m0 m1 m2 hE hs0 hs1 hs2 hsz
  obtain ⟨W1, hW1⟩ : ∃ W1, W1 = W.alloc (.cells #[] 3) := ⟨_, rfl⟩
  go_wp2_with (at_builtin; refine wpList_row_ofC rfl (.tmp 6) (.tmp 8) rfl W.heap.size rfl (World.ownsRow_made W #[] 0 (Nat.le_refl _) (by decide) rfl) (by rw [size_alloc]; omega) q C.extra d rfl (HQ.out _ (HE.out.alloc _)) (by have := HX.out; omega) ?_)
  intro g cn w2 hown hgr
  have hF := grown_fr hgr
  have hne0 : ∀ k, k < W.heap.size → ¬(some W.heap.size = some k) := fun k hk e => by cases e; omega
  have keep : ∀ (b : Nat) (o : Obj), W.heap[b]? = some o → w2.heap[b]? = some o := fun b o ho => by
    have hb := (Array.getElem?_eq_some_iff.1 ho).1
    exact (hF.block b (by rw [size_alloc]; omega) (hne0 b hb)).trans (heap_ext3 ho ((Ext.refl W).alloc _))
  have m0 := keep _ _ HM0.out
  have m1 := keep _ _ HM1.out
  have m2 := keep _ _ HM2.out
  have hE2 : Ext w w2 := Below.grown (HE.out.alloc _) hgr (by rw [size_alloc]; have := HE.out.size; omega) (fun j hj => by cases hj; exact HE.out.size)
  have hs2 : W.heap.size ≤ w2.heap.size := by have := hF.size; rw [size_alloc] at this; omega
  have d0 : w2.cell? ⟨s2, 0, none⟩ = some (.slice p C.meters.length c) := cell_of_heap m2 0
  have d1 : w2.cell? ⟨s2, 1, none⟩ = some (.slice q C.extra.length d) := cell_of_heap m2 1
  have b0 : w2.frozen? ⟨s2, 0, none⟩ = false := cell_frozen m2 0
  have b1 : w2.frozen? ⟨s2, 1, none⟩ = false := cell_frozen m2 1
  have HM0 := Lib.hid m0
  have HM1 := Lib.hid m1
  have HM2 := Lib.hid m2
  have HE2 := Lib.hid hE2
  have HOX := Lib.hid hown
  have HS2 := Lib.hid hs2
  clear hF hne0 keep m0 m1 m2 hE2 hs2 hown hgr a0 a1
  go_upto_region 3 with (fail)
  obtain ⟨W3, hW3⟩ : ∃ W3, W3 = (w2.setCell ⟨s2, 0, none⟩ (.slice none 0 0)).setCell ⟨s2, 1, none⟩ (.slice (some ⟨g, 0, none⟩) C.extra.length cn) := ⟨_, rfl⟩
  obtain ⟨hs0, hs1, hs2, hsz⟩ := HSS.out
  have n2 : W3.heap[s2]? = some (.cells #[.slice none 0 0, .slice (some ⟨g, 0, none⟩) C.extra.length cn, .int .i64 C.frm, .int .i64 C.tto] 25) := by rw [hW3]; exact heap_set (heap_set HM2.out rfl) rfl
  have n0 : W3.heap[s0]? = some (.cells #[.slice p C.meters.length c, .slice q C.extra.length d, .int .i64 C.frm, .int .i64 C.tto] 25) := by rw [hW3]; exact heap_set_ne (by omega) (heap_set_ne (by omega) HM0.out)
  have n1 : W3.heap[s1]? = some (.cells #[.slice none 0 0, .slice none 0 0, .int .i64 0, .int .i64 0] 25) := by rw [hW3]; exact heap_set_ne (by omega) (heap_set_ne (by omega) HM1.out)
  have hE3 : Ext w W3 := by rw [hW3]; exact Ext.setCell (Ext.setCell HE2.out (p := ⟨s2, 0, none⟩) (by show w.heap.size ≤ s2; omega) _) (p := ⟨s2, 1, none⟩) (by show w.heap.size ≤ s2; omega) _
  have hO3 : W3.ownsRow W.heap.size 3 1 (.slice (some ⟨g, 0, none⟩) C.extra.length cn) C.extra.length (intVs C.extra) := by rw [hW3]; exact ownsRow_off (ownsRow_off HOX.out (by omega)) (by omega)
  have hs3 : W.heap.size ≤ W3.heap.size := by rw [hW3]; simp only [World.setCell, Array.size_modify]; exact HS2.out
  rw [← hW3]
  have HN0 := Lib.hid n0
  have HN1 := Lib.hid n1
  have HN2 := Lib.hid n2
  have HE3 := Lib.hid hE3
  have HO3 := Lib.hid hO3
  have HS3 := Lib.hid hs3
  clear hW3 n0 n1 n2 hE3 hO3 hs3 d0 d1 b0 b1 hs0 hs1 hs2 hsz HM0 HM1 HM2 HE2 HOX HS2
  go_wp2
  go_loopw [4] (fun i wr => ∃ (k : Nat) (u : Value) (vs : List Value), k ≤ C.meters.length ∧ i = .int .i64 k ∧ Ext w wr ∧ W.heap.size ≤ wr.heap.size ∧ MtR wr W.heap.size u vs (C.meters.take k) ∧
    wr.ownsRow W.heap.size 3 1 (.slice (some ⟨g, 0, none⟩) C.extra.length cn) C.extra.length (intVs C.extra) ∧
    wr.heap[s0]? = some (.cells #[.slice p C.meters.length c, .slice q C.extra.length d, .int .i64 C.frm, .int .i64 C.tto] 25) ∧
    wr.heap[s1]? = some (.cells #[.slice none 0 0, .slice none 0 0, .int .i64 0, .int .i64 0] 25) ∧
    wr.heap[s2]? = some (.cells #[u, .slice (some ⟨g, 0, none⟩) C.extra.length cn, .int .i64 C.frm, .int .i64 C.tto] 25)) (fun i _ => C.meters.length - (intOf i).toNat)
  case atStart => exact ⟨0, .slice none 0 0, [], Nat.zero_le _, rfl, HE3.out, HS3.out, MtR.nil _ _, HO3.out, HN0.out, HN1.out, HN2.out⟩
  case round =>
    obtain ⟨k, u, vs, hk, rfl, hE, hsz, hR, hO, n0, n1, n2⟩ := hrel
    obtain ⟨wo, rfl⟩ : ∃ wo, wo = wr := ⟨_, rfl⟩
    have HEO := Lib.hid hE
    have HSO := Lib.hid hsz
    have HR := Lib.hid hR
    have HO := Lib.hid hO
    have HN0 := Lib.hid n0
    have HN1 := Lib.hid n1
    have HN2 := Lib.hid n2
    have a0 : wo.cell? ⟨s0, 0, none⟩ = some (.slice p C.meters.length c) := cell_of_heap n0 0
    clear hE hsz hR hO n0 n1 n2
    by_cases hlt : k < C.meters.length
    · have hlt' : (k : Int) < (C.meters.length : Int) := by omega
      obtain ⟨rb, ro, p1, d1, p2, d2, hpp, r0, r1, r2, r3, r4⟩ := HP.out _ HEO.out k hlt
      subst hpp
      have hml := HSM.out.mt _ (List.getElem_mem hlt)
      have htk := List.take_succ_eq_append_getElem hlt
      obtain ⟨M, hMe⟩ : ∃ M, M = C.meters[k] := ⟨_, rfl⟩
      rw [← hMe] at r0 r1 r2 r3 r4 hml htk
      have HCP := Lib.hid (fun y (h : Ext wo y) => Copy04 M (.agg #[.slice p1 M.weeks.length d1, .slice p2 M.reads.length d2, .int .i64 M.wrong]) y ⟨p1, d1, p2, d2, rfl, r3.ext h, r4.ext h⟩ (by omega) (by omega))
      have HKC := Lib.hid (fun y (h : Ext wo y) => (⟨h.cell (cell_of_heap HN2.out 0), h.cell (cell_of_heap HN0.out 0), h.cell r0, h.cell r1, h.cell r2⟩ :
        y.cell? ⟨s2, 0, none⟩ = some u ∧ y.cell? ⟨s0, 0, none⟩ = some (.slice (some ⟨rb, ro, none⟩) C.meters.length c) ∧ y.cell? ⟨rb, ro + k * 3, none⟩ = some (.slice p1 M.weeks.length d1) ∧ y.cell? ⟨rb, ro + k * 3 + 1, none⟩ = some (.slice p2 M.reads.length d2) ∧ y.cell? ⟨rb, ro + k * 3 + 2, none⟩ = some (.int .i64 M.wrong)))
      have HTK := Lib.hid htk
      clear r0 r1 r2 r3 r4 hml hMe htk
      go_upto_region 6 with (fail)
      clear a0
      refine wp_region_facts 9 [[], [0], [], [2], [], [3, 4], [5], [6], [7]] [1, 8] Ext (FL [Is (.pointer (some ⟨s2, 0, none⟩)), Is (u), Is (.pointer (some ⟨s0, 0, none⟩)), Is (.slice (some ⟨rb, ro, none⟩) C.meters.length c), Is (.int .i64 (k : Int)), Is (.pointer (some ⟨rb, ro + k * 3, none⟩)), Is (.agg #[.slice p1 M.weeks.length d1, .slice p2 M.reads.length d2, .int .i64 M.wrong]), MtF wo.heap.size M, OneM wo.heap.size M]) (by kernel_rfl) (by kernel_rfl) Ext.refl (fun _ _ _ => Ext.trans) (fun _ _ => Ext.size) (FL.mono ⟨Is.mono, Is.mono, Is.mono, Is.mono, Is.mono, Is.mono, Is.mono, MtF.mono, OneM.mono, trivial⟩) ⟨?_, ?_, ?_, ?_, ?_, ?_, ?_, ?_, ?_, trivial⟩ ?_
      · refine opF_step ?_
        intro ys l0 h0 w' hr hf K hK
        clear hf
        simp only [fill, Act.put, dstO, List.take_succ_cons, List.take_zero, List.setIfInBounds_toArray, List.set_cons_zero, List.set_cons_succ, List.getElem?_cons_zero, Nat.zero_add, Nat.reduceAdd] at hK ⊢
        refine OpB.mk' ?_
        go_simp
        exact hK.out _ _ rfl (Ext.refl _)
      · refine opF_step ?_
        intro ys l0 h0 w' hr hf K hK
        obtain ⟨f0, -⟩ := hf
        have e0 : ys 0 = _ := f0
        obtain ⟨j0, j1, j2, j3, j4⟩ := HKC.out w' ((Ext.refl wo).drew.trans hr)
        simp only [fill, Act.put, dstO, List.take_succ_cons, List.take_zero, List.setIfInBounds_toArray, List.set_cons_zero, List.set_cons_succ, List.getElem?_cons_zero, List.getElem?_cons_succ, Nat.zero_add, Nat.reduceAdd] at hK ⊢
        simp only [e0] at hK ⊢
        clear e0 f0
        refine OpB.mk' ?_
        go_simp
        exact hK.out _ _ rfl (Ext.refl _)
      · refine opF_step ?_
        intro ys l0 h0 w' hr hf K hK
        clear hf
        simp only [fill, Act.put, dstO, List.take_succ_cons, List.take_zero, List.setIfInBounds_toArray, List.set_cons_zero, List.set_cons_succ, List.getElem?_cons_zero, List.getElem?_cons_succ, Nat.zero_add, Nat.reduceAdd] at hK ⊢
        refine OpB.mk' ?_
        go_simp
        exact hK.out _ _ rfl (Ext.refl _)
      · refine opF_step ?_
        intro ys l0 h0 w' hr hf K hK
        obtain ⟨f0, -⟩ := hf
        have e0 : ys 2 = _ := f0
        obtain ⟨j0, j1, j2, j3, j4⟩ := HKC.out w' ((Ext.refl wo).drew.trans hr)
        simp only [fill, Act.put, dstO, List.take_succ_cons, List.take_zero, List.setIfInBounds_toArray, List.set_cons_zero, List.set_cons_succ, List.getElem?_cons_zero, List.getElem?_cons_succ, Nat.zero_add, Nat.reduceAdd] at hK ⊢
        simp only [e0] at hK ⊢
        clear e0 f0
        refine OpB.mk' ?_
        go_simp
        exact hK.out _ _ rfl (Ext.refl _)
      · refine opF_step ?_
        intro ys l0 h0 w' hr hf K hK
        clear hf
        simp only [fill, Act.put, dstO, List.take_succ_cons, List.take_zero, List.setIfInBounds_toArray, List.set_cons_zero, List.set_cons_succ, List.getElem?_cons_zero, List.getElem?_cons_succ, Nat.zero_add, Nat.reduceAdd] at hK ⊢
        refine OpB.mk' ?_
        go_simp
        exact hK.out _ _ rfl (Ext.refl _)
      · refine opF_step ?_
        intro ys l0 h0 w' hr hf K hK
        obtain ⟨f0, f1, -⟩ := hf
        have e0 : ys 3 = _ := f0
        have e1 : ys 4 = _ := f1
        simp only [fill, Act.put, dstO, List.take_succ_cons, List.take_zero, List.setIfInBounds_toArray, List.set_cons_zero, List.set_cons_succ, List.getElem?_cons_zero, List.getElem?_cons_succ, Nat.zero_add, Nat.reduceAdd] at hK ⊢
        simp only [e0, e1] at hK ⊢
        clear e0 e1 f0 f1
        refine OpB.mk' ?_
        go_simp
        exact hK.out _ _ rfl (Ext.refl _)
      · refine opF_step ?_
        intro ys l0 h0 w' hr hf K hK
        obtain ⟨f0, -⟩ := hf
        have e0 : ys 5 = _ := f0
        obtain ⟨j0, j1, j2, j3, j4⟩ := HKC.out w' ((Ext.refl wo).drew.trans hr)
        simp only [fill, Act.put, dstO, List.take_succ_cons, List.take_zero, List.setIfInBounds_toArray, List.set_cons_zero, List.set_cons_succ, List.getElem?_cons_zero, List.getElem?_cons_succ, Nat.zero_add, Nat.reduceAdd] at hK ⊢
        simp only [e0] at hK ⊢
        clear e0 f0
        refine OpB.mk' ?_
        go_simp
        exact hK.out _ _ rfl (Ext.refl _)
      · refine opF_step ?_
        intro ys l0 h0 w' hr hf K hK
        obtain ⟨f0, -⟩ := hf
        have e0 : ys 6 = _ := f0
        simp only [fill, Act.put, dstO, List.take_succ_cons, List.take_zero, List.setIfInBounds_toArray, List.set_cons_zero, List.set_cons_succ, List.getElem?_cons_zero, List.getElem?_cons_succ, Nat.zero_add, Nat.reduceAdd] at hK ⊢
        simp only [e0] at hK ⊢
        clear e0 f0
        refine OpB.mk' ?_
        go_simp
        refine (HCP.out w' ((Ext.refl wo).drew.trans hr)).mono ?_
        rintro e w2 ⟨x, rfl, hE2, hO2⟩
        exact hK.out _ _ (hO2.base (Ext.size ((Ext.refl wo).drew.trans hr))) hE2
      · refine opF_step ?_
        intro ys l0 h0 w' hr hf K hK
        obtain ⟨f0, -⟩ := hf
        obtain ⟨x1, y1, x2, y2, e0, o1, o2⟩ := f0
        simp only [fill, Act.put, dstO, List.take_succ_cons, List.take_zero, List.setIfInBounds_toArray, List.set_cons_zero, List.set_cons_succ, List.getElem?_cons_zero, List.getElem?_cons_succ, Nat.zero_add, Nat.reduceAdd] at hK ⊢
        simp only [e0] at hK ⊢
        clear e0
        refine OpB.mk' ?_
        go_simp
        exact hK.out _ _ ⟨_, _, _, _, rfl, heap_new _ _, x1, y1, x2, y2, rfl, ownsRow_ext o1 (Ext.alloc (Ext.refl _) _), ownsRow_ext o2 (Ext.alloc (Ext.refl _) _)⟩ (Ext.alloc (Ext.refl _) _)
      intro ys l0 h0 w2 hr hf hsp
      obtain ⟨f1, f8, -⟩ := hf
      have e1 : ys 1 = _ := f1
      obtain ⟨gn, x0, x1, x2, e8, hn, hmo⟩ := f8
      simp only [fill, Act.put, List.take_succ_cons, List.take_zero, List.setIfInBounds_toArray, List.set_cons_zero, List.set_cons_succ, Nat.zero_add, Nat.reduceAdd, List.drop_succ_cons, List.drop_zero]
      rw [e1]
      clear e1 f1
      rw [e8]
      clear hsp
      have hEY : Ext wo w2 := (Ext.refl wo).drew.trans hr
      have HEY := Lib.hid hEY
      have HN := Lib.hid hn
      have HMO := Lib.hid hmo
      obtain ⟨i0, hi, hz0, hz1, hz2⟩ := info_parts info_mt
      have HI0 := Lib.hid (⟨hi, hz0, hz1, hz2⟩ : _ ∧ _ ∧ _ ∧ _)
      have HE8 := Lib.hid e8
      clear hr hEY hn hmo e8 HCP HKC hi hz0 hz1 hz2
      have hlk : (C.meters.take k).length = k := by rw [List.length_take]; omega
      have HLK := Lib.hid hlk
      have hszw := HEY.out.size
      have hszo := HSO.out
      have hn6 := HSM.out.nm
      clear hlk
      go_wp2_with (at_builtin; refine wpList_append_lies _ rfl (.tmp 20) (.tmp 27) 22 rfl W.heap.size 55 i0 (.agg #[.slice none 0 0, .slice none 0 0, .int .i64 0]) 3 56 Tryz.underlying22 HI0.out.1 HI0.out.2.1 HI0.out.2.2.1 HI0.out.2.2.2 rfl (by decide) _ (C.meters.take k).length vs rfl (ownsRow_ext HR.out.out HEY.out) ⟨gn, 0, none⟩ 1 1 [x0, x1, x2] rfl rfl ?c1 ?c2 (by decide) ?c3 ?c4 ?c5 w2.heap.size rfl ?_)
      case c1 =>
        intro j x hj
        match j, hj with
        | 0, hj => simp at hj; subst hj; exact cell_of_heap HN.out 0
        | 1, hj => simp at hj; subst hj; exact cell_of_heap HN.out 1
        | 2, hj => simp at hj; subst hj; exact cell_of_heap HN.out 2
      case c2 =>
        obtain ⟨y1, z1, y2, z2, he, -, -⟩ := HMO.out
        simp only [Value.agg.injEq, Array.mk.injEq, List.cons.injEq, and_true] at he
        obtain ⟨rfl, rfl, rfl⟩ := he
        intro x hx
        simp at hx
        rcases hx with rfl | rfl | rfl <;> rfl
      case c3 => have := HLK.out; unfold maxLen; omega
      case c4 => have := HLK.out; omega
      case c5 => omega
      intro g5 cap5 w5 hown5 hgr5 hat5 hlt5
      obtain ⟨hs0, hs1, hs2, hsz⟩ := HSS.out
      have hF := grown_fr hgr5
      have hub : ∀ j, u.ownBlock = some j → W.heap.size ≤ j := by
        intro j hj
        rcases HR.out.out.2 with ⟨hv, -⟩ | ⟨g', cap', cur', hv, hB, -⟩
        · rw [hv] at hj; cases hj
        · rw [hv] at hj; cases hj; exact hB
      have keep : ∀ (b : Nat) (o : Obj), b < W.heap.size → wo.heap[b]? = some o → w5.heap[b]? = some o := fun b o hb ho =>
        (hF.block b (by omega) (fun h => absurd (hub _ h) (by omega))).trans (heap_ext3 ho HEY.out)
      have m0 := keep _ _ (by omega) HN0.out
      have m1 := keep _ _ (by omega) HN1.out
      have m2 := keep _ _ (by omega) HN2.out
      have hO5 : w5.ownsRow W.heap.size 3 1 (.slice (some ⟨g, 0, none⟩) C.extra.length cn) C.extra.length (intVs C.extra) := by
        have h' := ownsRow_ext HO.out HEY.out
        refine ownsRow_fr h' hF fun x hx hux => ?_
        cases hx
        rcases HR.out.out.2 with ⟨hv, -⟩ | ⟨g', cap', cur', hv, -⟩
        · rw [hv] at hux; cases hux
        · have hout := ownsRow_ext HR.out.out HEY.out
          rw [hv] at hux hout
          cases hux
          exact own_ne h' hout (by decide) rfl
      have hR5 := MtR.step HR.out HEY.out HMO.out HSO.out (Nat.le_refl _) (by rw [HLK.out]; exact hown5) hgr5
      rw [← HTK.out] at hR5
      have hE5 : Ext w w5 := Below.grown (HEO.out.trans HEY.out) hgr5 (HEO.out.trans HEY.out).size (fun j hj => by have := hub j hj; omega)
      have hs5 : W.heap.size ≤ w5.heap.size := by have := hF.size; omega
      have d0 : w5.cell? ⟨s2, 0, none⟩ = some u := cell_of_heap m2 0
      have b0 : w5.frozen? ⟨s2, 0, none⟩ = false := cell_frozen m2 0
      have HM0 := Lib.hid m0
      have HM1 := Lib.hid m1
      have HM2 := Lib.hid m2
      have HO5 := Lib.hid hO5
      have HR5 := Lib.hid hR5
      have HE5 := Lib.hid hE5
      have HS5 := Lib.hid hs5
      clear m0 m1 m2 hO5 hR5 hE5 hs5 hub keep hF hown5 hgr5 hat5 hlt5 hs0 hs1 hs2 hsz
      go_upto_region 5 with (fail)
      obtain ⟨W6, hW6⟩ : ∃ W6, W6 = w5.setCell ⟨s2, 0, none⟩ (.slice (some ⟨g5, 0, none⟩) (k + 1) cap5) := ⟨_, rfl⟩
      obtain ⟨hs0, hs1, hs2, hsz⟩ := HSS.out
      have m2 : W6.heap[s2]? = some (.cells #[.slice (some ⟨g5, 0, none⟩) (k + 1) cap5, .slice (some ⟨g, 0, none⟩) C.extra.length cn, .int .i64 C.frm, .int .i64 C.tto] 25) := by rw [hW6]; exact heap_set HM2.out rfl
      have m0 := HM0.out
      have m1 := HM1.out
      have hE6 : Ext w W6 := by rw [hW6]; exact Ext.setCell HE5.out (p := ⟨s2, 0, none⟩) (by show w.heap.size ≤ s2; omega) _
      have hO6 : W6.ownsRow W.heap.size 3 1 (.slice (some ⟨g, 0, none⟩) C.extra.length cn) C.extra.length (intVs C.extra) := by rw [hW6]; exact ownsRow_off HO5.out (by omega)
      have hR6 : MtR W6 W.heap.size (.slice (some ⟨g5, 0, none⟩) (k + 1) cap5) (vs ++ [x0, x1, x2]) (C.meters.take (k + 1)) := by rw [hW6]; exact MtR.off HR5.out (by omega)
      have hs6 : W.heap.size ≤ W6.heap.size := by rw [hW6]; simp only [World.setCell, Array.size_modify]; exact HS5.out
      have m0 : W6.heap[s0]? = some (.cells #[.slice (some ⟨rb, ro, none⟩) C.meters.length c, .slice q C.extra.length d, .int .i64 C.frm, .int .i64 C.tto] 25) := by rw [hW6]; exact heap_set_ne (by omega) m0
      have m1 : W6.heap[s1]? = some (.cells #[.slice none 0 0, .slice none 0 0, .int .i64 0, .int .i64 0] 25) := by rw [hW6]; exact heap_set_ne (by omega) m1
      rw [← hW6]
      have HM0 := Lib.hid m0
      have HM1 := Lib.hid m1
      have HM2 := Lib.hid m2
      have HE6 := Lib.hid hE6
      have HO6 := Lib.hid hO6
      have HR6 := Lib.hid hR6
      have HS6 := Lib.hid hs6
      clear hW6 m0 m1 m2 hE6 hO6 hR6 hs6 hs0 hs1 hs2 hsz d0 b0
      go_wp2
      go_roundw
      case rel => exact ⟨k + 1, _, _, by omega, by simp, HE6.out, HS6.out, HR6.out, HO6.out, HM0.out, HM1.out, HM2.out⟩
      case measure => simp [intOf]; omega
    · obtain rfl : k = C.meters.length := by omega
      have hge : ¬(C.meters.length : Int) < (C.meters.length : Int) := by omega
      have hR := HR.out
      rw [List.take_length] at hR
      have HR := Lib.hid hR
      obtain ⟨pu, cu, rfl, -⟩ := hR.mts
      clear hR
      have d0 : wo.cell? ⟨s2, 0, none⟩ = some (.slice pu C.meters.length cu) := cell_of_heap HN2.out 0
      have d1 : wo.cell? ⟨s2, 1, none⟩ = some (.slice (some ⟨g, 0, none⟩) C.extra.length cn) := cell_of_heap HN2.out 1
      have d2 : wo.cell? ⟨s2, 2, none⟩ = some (.int .i64 C.frm) := cell_of_heap HN2.out 2
      have d3 : wo.cell? ⟨s2, 3, none⟩ = some (.int .i64 C.tto) := cell_of_heap HN2.out 3
      have c0 : wo.cell? ⟨s1, 0, none⟩ = some (.slice none 0 0) := cell_of_heap HN1.out 0
      have c1 : wo.cell? ⟨s1, 1, none⟩ = some (.slice none 0 0) := cell_of_heap HN1.out 1
      have c2 : wo.cell? ⟨s1, 2, none⟩ = some (.int .i64 0) := cell_of_heap HN1.out 2
      have c3 : wo.cell? ⟨s1, 3, none⟩ = some (.int .i64 0) := cell_of_heap HN1.out 3
      have b0 := cell_frozen HN1.out 0
      have b1 := cell_frozen HN1.out 1
      have b2 := cell_frozen HN1.out 2
      have b3 := cell_frozen HN1.out 3
      go_wp2
      obtain ⟨hs0, hs1, hs2, hsz⟩ := HSS.out
      refine copyEnd06 (s := s1) (heap_quad HN1.out) rfl rfl ⟨_, g, cn, rfl, ?_, ⟨_, ((((HR.out.off (by omega)).off (by omega)).off (by omega)).off (by omega)).base (by omega)⟩, ownsRow_base (ownsRow_off (ownsRow_off (ownsRow_off (ownsRow_off HO.out (by omega)) (by omega)) (by omega)) (by omega)) (by omega)⟩
      exact Ext.setCell (p := ⟨s1, 3, none⟩) (Ext.setCell (p := ⟨s1, 2, none⟩) (Ext.setCell (p := ⟨s1, 1, none⟩) (Ext.setCell (p := ⟨s1, 0, none⟩) HEO.out (by show w.heap.size ≤ s1; omega) _) (by show w.heap.size ≤ s1; omega) _) (by show w.heap.size ≤ s1; omega) _) (by show w.heap.size ≤ s1; omega) _
end Go.Proofs.YtppncdbhebgcaaaGreatDoor
