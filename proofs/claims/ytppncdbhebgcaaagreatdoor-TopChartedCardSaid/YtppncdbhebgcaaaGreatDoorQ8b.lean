
/- Rows that a call has collected: read through blocks that are not the collection's own; the walk of the reference's plays. -/
import Derived.Test.YtppncdbhebgcaaaGreatDoorQ8a
import Derived.Deep.RegionWith
import Derived.Deep.RegionHeld3
namespace Go.Proofs.YtppncdbhebgcaaaGreatDoor
open Go.RowKit

/-- ints read through blocks that are not r -/
def IntsNe (r : Option Nat) (w : World) (q : Option Addr) (l : List Int) : Prop := ∀ j (h : j < l.length), ∃ b o, q = some ⟨b, o, none⟩ ∧ some b ≠ r ∧ w.cell? ⟨b, o + j, none⟩ = some (.int .i64 l[j])
theorem IntsNe.ints {r : Option Nat} {w : World} {q : Option Addr} {l : List Int} (h : IntsNe r w q l) : IntsAt w q l := by
  intro j hj
  obtain ⟨b, o, hq, -, hc⟩ := h j hj
  exact ⟨b, o, _, hq, hc, rfl⟩
theorem IntsAt.ne {w : World} {q : Option Addr} {l : List Int} (h : IntsAt w q l) (r : Option Nat) (hr : ∀ b, r = some b → w.heap.size ≤ b) : IntsNe r w q l := by
  intro j hj
  obtain ⟨b, o, hq, hc⟩ := h.at j hj
  refine ⟨b, o, hq, fun he => ?_, hc⟩
  have h1 := lt_of_cell hc
  have h2 := hr b he.symm
  omega
theorem IntsNe.ext {r : Option Nat} {w w' : World} {q : Option Addr} {l : List Int} (h : IntsNe r w q l) (hE : Ext w w') : IntsNe r w' q l := by
  intro j hj
  obtain ⟨b, o, hq, hn, hc⟩ := h j hj
  exact ⟨b, o, hq, hn, hE.cell hc⟩
theorem IntsNe.keep2 {g r : Option Nat} {w w' : World} {q : Option Addr} {l : List Int} (hL : IntsNe g w q l) (hL2 : IntsNe r w q l) (hg : w.grownBy w' g) : IntsNe r w' q l := by
  intro j hj
  obtain ⟨b, o, hq, hn, hc⟩ := hL j hj
  obtain ⟨b', o', hq', hn', hc'⟩ := hL2 j hj
  rw [hq] at hq'
  cases hq'
  exact ⟨b, o, hq, hn', hg.cell hc hn⟩
theorem IntsNe.keep1 {g : Option Nat} {n : Nat} {w w' : World} {q : Option Addr} {l : List Int} (hL : IntsNe g w q l) (hg : w.grownBy w' g) (hat : g = some n ∨ n = w.heap.size) : IntsNe (some n) w' q l := by
  rcases hat with ha | ha
  · rw [← ha]; exact hL.keep2 hL hg
  · exact hL.keep2 (hL.ints.ne (some n) (fun b hb => by cases hb; omega)) hg

/-- rows that a call has collected: read through blocks that are not the collection's own, nor r -/
structure RwV (w : World) (B : Nat) (v : Value) (vs : List Value) (L : List (List Int)) (r : Option Nat) : Prop where
  len : vs.length = L.length
  out : w.ownsRow B 23 1 v vs.length vs
  row : ∀ i (h : i < L.length), ∃ p c, vs[i]? = some (.slice p L[i].length c) ∧ IntsNe v.ownBlock w p L[i]
  oth : ∀ i (h : i < L.length), ∃ p c, vs[i]? = some (.slice p L[i].length c) ∧ IntsNe r w p L[i]
theorem RwV.nil (w : World) (B : Nat) (r : Option Nat) : RwV w B (.slice none 0 0) [] [] r := ⟨rfl, World.ownsRow_nil _ _ _ _, fun i h => absurd h (by simp), fun i h => absurd h (by simp)⟩
theorem RwV.ext {w w' : World} {B : Nat} {v : Value} {vs : List Value} {L : List (List Int)} {r : Option Nat} (h : RwV w B v vs L r) (hE : Ext w w') : RwV w' B v vs L r :=
  ⟨h.len, ownsRow_ext h.out hE, fun i hi => by obtain ⟨p, c, h1, h2⟩ := h.row i hi; exact ⟨p, c, h1, h2.ext hE⟩, fun i hi => by obtain ⟨p, c, h1, h2⟩ := h.oth i hi; exact ⟨p, c, h1, h2.ext hE⟩⟩
theorem RwV.base {w : World} {B B' : Nat} {v : Value} {vs : List Value} {L : List (List Int)} {r : Option Nat} (h : RwV w B v vs L r) (hB : B' ≤ B) : RwV w B' v vs L r :=
  ⟨h.len, ownsRow_base h.out hB, h.row, h.oth⟩
theorem RwV.slice {w : World} {B : Nat} {v : Value} {vs : List Value} {L : List (List Int)} {r : Option Nat} (h : RwV w B v vs L r) : ∃ q cap, v = .slice q vs.length cap := by
  rcases h.out.2 with ⟨hv, h0⟩ | ⟨b, cap, cur, hv, -⟩
  · exact ⟨none, 0, by rw [hv, h0]⟩
  · exact ⟨_, cap, hv⟩
theorem RwV.none_zero {w : World} {B : Nat} {q : Option Addr} {n c : Nat} {vs : List Value} {L : List (List Int)} {r : Option Nat} (h : RwV w B (.slice q n c) vs L r) : q = none → vs.length = 0 := by
  intro hq
  rcases h.out.2 with ⟨hv, h0⟩ | ⟨b, cap, cur, hv, -⟩
  · exact h0
  · cases hv; cases hq
theorem RwV.one {w : World} {B : Nat} {v : Value} {vs : List Value} {L : List (List Int)} {r : Option Nat} (h : RwV w B v vs L r) : ∀ u ∈ vs, u.oneCell' = true := by
  intro u hu
  obtain ⟨i, hi, rfl⟩ := List.getElem_of_mem hu
  obtain ⟨p, c, h1, -⟩ := h.row i (by have := h.len; omega)
  rw [List.getElem?_eq_getElem hi] at h1
  rw [Option.some.inj h1]
  rfl
/-- rows that another call has collected, appended -/
theorem RwV.step {wr w2 w4 : World} {B n g4 cap4 : Nat} {u : Value} {vs xs : List Value} {L Ms : List (List Int)} {r : Option Nat} (h : RwV wr B u vs L r) (hE : Ext wr w2)
    (hxs : xs.length = Ms.length) (hx : ∀ i (hi : i < Ms.length), ∃ p c, xs[i]? = some (.slice p Ms[i].length c) ∧ IntsNe u.ownBlock w2 p Ms[i]) (hr : ∀ i (hi : i < Ms.length), ∃ p c, xs[i]? = some (.slice p Ms[i].length c) ∧ IntsNe r w2 p Ms[i])
    (h4 : w4.ownsRow B 23 1 (.slice (some ⟨g4, 0, none⟩) n cap4) (vs.length + Ms.length) (vs ++ xs)) (hg : w2.grownBy w4 u.ownBlock) (hat : u.ownBlock = some g4 ∨ g4 = w2.heap.size) :
    RwV w4 B (.slice (some ⟨g4, 0, none⟩) n cap4) (vs ++ xs) (L ++ Ms) r := by
  have hget : ∀ i, i < L.length → (vs ++ xs)[i]? = vs[i]? := fun i hi => List.getElem?_append_left (by have := h.len; omega)
  have hget2 : ∀ i, ¬i < L.length → (vs ++ xs)[i]? = xs[i - L.length]? := fun i hi => by rw [List.getElem?_append_right (by have := h.len; omega), h.len]
  refine ⟨by simp [h.len, hxs], by rw [List.length_append, hxs]; exact h4, fun i hi => ?_, fun i hi => ?_⟩
  · rw [List.length_append] at hi
    by_cases hik : i < L.length
    · obtain ⟨p, c, h1, h2⟩ := h.row i hik
      rw [List.getElem_append_left hik, hget i hik]
      exact ⟨p, c, h1, (h2.ext hE).keep1 hg hat⟩
    · obtain ⟨p, c, h1, h2⟩ := hx (i - L.length) (by omega)
      rw [List.getElem_append_right (by omega), hget2 i hik]
      exact ⟨p, c, h1, h2.keep1 hg hat⟩
  · rw [List.length_append] at hi
    by_cases hik : i < L.length
    · obtain ⟨p, c, h1, h2⟩ := h.row i hik
      obtain ⟨p', c', h1', h2'⟩ := h.oth i hik
      rw [h1] at h1'
      cases h1'
      rw [List.getElem_append_left hik, hget i hik]
      exact ⟨p, c, h1, (h2.ext hE).keep2 (h2'.ext hE) hg⟩
    · obtain ⟨p, c, h1, h2⟩ := hx (i - L.length) (by omega)
      obtain ⟨p', c', h1', h2'⟩ := hr (i - L.length) (by omega)
      rw [h1] at h1'
      cases h1'
      rw [List.getElem_append_right (by omega), hget2 i hik]
      exact ⟨p, c, h1, h2.keep2 h2' hg⟩
theorem rw_grow {wr w3 w4 : World} {B B3 : Nat} {u v3 v4 : Value} {vs vs3 : List Value} {L Ms : List (List Int)} {r : Option Nat} (hF : RwV wr B u vs L r) (hE : Ext wr w3)
    (h3u : RwV w3 B3 v3 vs3 Ms u.ownBlock) (h3r : RwV w3 B3 v3 vs3 Ms r)
    (h4 : w4.ownsRow B 23 1 v4 (vs.length + vs3.length) (vs ++ vs3)) (hg : w3.grownBy w4 u.ownBlock)
    (hat : v4 = u ∧ w4 = w3 ∧ vs3.length = 0 ∨ ∃ g cap, v4 = .slice (some ⟨g, 0, none⟩) (vs.length + vs3.length) cap ∧ (u.ownBlock = some g ∨ g = w3.heap.size)) :
    RwV w4 B v4 (vs ++ vs3) (L ++ Ms) r := by
  rcases hat with ⟨rfl, rfl, h0⟩ | ⟨g, cap, rfl, hat⟩
  · have e1 : vs3 = [] := List.length_eq_zero_iff.1 h0
    have e2 : Ms = [] := List.length_eq_zero_iff.1 (by have := h3u.len; omega)
    subst e1
    subst e2
    rw [List.append_nil, List.append_nil]
    exact hF.ext hE
  · exact hF.step hE h3u.len h3u.oth h3r.oth (by rw [← h3u.len]; exact h4) hg hat

def StpK (a b : World) : Prop := Ext a b
theorem StpK.out {a b : World} (h : StpK a b) : Ext a b := h
theorem StpK.mk {a b : World} (h : Ext a b) : StpK a b := h
theorem size_drewK (w : World) : w.drew.heap.size = w.heap.size := rfl
theorem own_madeK {w : World} {t : TypeId} {size g : Nat} (hg : g = w.heap.size) : (w.alloc (.cells #[] t)).ownsRow g t size (.slice (some ⟨g, 0, none⟩) 0 0) 0 [] := by
  subst hg
  exact World.ownsRow_made w #[] 0 (Nat.le_refl _) (by decide) (by simp : (#[] : Array Value).size = 0 * size)
theorem own_drewK {w : World} {B : Nat} {e : TypeId} {size : Nat} {v : Value} {n : Nat} {xs : List Value} (h : w.ownsRow B e size v n xs) : w.drew.ownsRow B e size v n xs := ownsRow_ext h (Ext.drew (Ext.refl _))
theorem grown_step {W x w4 : World} {r : Option Nat} (hE : Ext W x) (hg : x.grownBy w4 r) (hr : ∀ b, r = some b → W.heap.size ≤ b) : StpK W w4 := Below.grown hE hg hE.size hr
/-- the operation that is at hand, checked before all else -/
theorem guard_op {ops : Array Oper} {E : Prop} {w : World} {o : Oper} {a : Act} {K : Act → World → Prop} {Q : Exit → Act → World → Prop} (c : Op) (_ho : o.op = c)
    (h : if Region.wanted o (yielded ops a.tmps) = true then Oper.wp Tryz.prog o a w K Q else E) : if Region.wanted o (yielded ops a.tmps) = true then Oper.wp Tryz.prog o a w K Q else E := h
/-- something, perhaps nothing, appended to an own slice: at a step of a region that draws its order -/
theorem step_append_any {w : World} {ops : Array Oper} {o : Oper} {a : Act} {K : Act → World → Prop} {Q : Exit → Act → World → Prop} {E : Prop} (hgd : o.guard = none) (s x : Operand) (t : TypeId)
    (ho : o.op = .call { callee := .builtin .append, args := #[s, x], argTypes := #[t, t] })
    (base : Nat) (e : TypeId) (i : TypeInfo) (z : Value) (size bytes : Nat) (ht : Tryz.prog.underlying t = some (.slice e)) (hi : Tryz.prog.info? e = some i) (hz : i.zero = some z)
    (hsize : i.size = size) (hby : i.bytes = bytes) (hzs : z.cells.size = size) (hsz : 0 < size)
    (v : Value) (n : Nat) (xs : List Value) (hs : a.eval s = v) (hown : w.ownsRow base e size v n xs)
    (q : Option Addr) (m c : Nat) (news : List Value) (hx : a.eval x = .slice q m c) (hl : news.length = m * size) (hnews : ∀ ad, q = some ad → ∀ j u, news[j]? = some u → w.cell? (ad.add j) = some u) (hq : q = none → m = 0) (h1 : ∀ u ∈ news, u.oneCell' = true)
    (h63 : n + m ≤ maxLen) (hbytes : (n + m) * bytes ≤ 140737488355328) (hbase : base ≤ w.heap.size)
    (h : ∀ v' w', w'.ownsRow base e size v' (n + m) (xs ++ news) → w.grownBy w' v.ownBlock → (v' = v ∧ w' = w ∧ m = 0 ∨ ∃ g cap, v' = .slice (some ⟨g, 0, none⟩) (n + m) cap ∧ (v.ownBlock = some g ∨ g = w.heap.size)) → K (a.put o.dst v') w') :
    if Region.wanted o (yielded ops a.tmps) = true then Oper.wp Tryz.prog o a w K Q else E := by
  by_cases hm : m = 0
  · subst hm
    have hw : Region.wanted o (yielded ops a.tmps) = true := by simp [Region.wanted, hgd]
    rw [if_pos hw]
    have hnn : news = [] := List.length_eq_zero_iff.1 (by rw [hl]; simp)
    subst hnn
    have hrun := run_append_owned_zero (P := Tryz.prog) (w := w) base t o.type e i size ht hi v n c q xs hown
    unfold Oper.wp
    simp [execOp, ho, resolve, invoke, builtin, hs, hx, hrun, Result.andThen]
    exact h v w (by simpa using hown) (World.grownBy.refl _ _) (Or.inl ⟨rfl, rfl, rfl⟩)
  · cases q with
    | none => exact absurd (hq rfl) hm
    | some ad =>
      exact step_append_lies w hgd s x t ho base e i z size bytes ht hi hz hsize hby hzs hsz v n xs hs hown ad m c news hx hl (hnews ad rfl) h1 (by omega) h63 hbytes hbase w.heap.size rfl
        fun g cap w' k1 k2 k3 _ => h _ w' k1 k2 (Or.inr ⟨g, cap, rfl, k3⟩)
/-- what an own slice of rows holds, read as the sources of an append -/
theorem own_news {w : World} {B : Nat} {e : TypeId} {q : Option Addr} {n c : Nat} {vs : List Value} (h : w.ownsRow B e 1 (.slice q n c) vs.length vs) : ∀ ad, q = some ad → ∀ j u, vs[j]? = some u → w.cell? (ad.add j) = some u := by
  intro ad hq j u hj
  have hjl : j < vs.length := (List.getElem?_eq_some_iff.1 hj).1
  obtain ⟨b, cc, he, hc⟩ := ownsRow_at h j hjl
  injection he with he1 he2 he3
  rw [hq] at he1
  cases he1
  rw [hj] at hc
  rw [← hc]
  by_cases h0 : j = 0
  · subst h0; rfl
  · simp [Addr.add, h0]
theorem ints_news {w : World} {q : Option Addr} {l : List Int} (h : IntsAt w q l) : ∀ ad, q = some ad → ∀ j u, (intVs l)[j]? = some u → w.cell? (ad.add j) = some u := by
  intro ad hq j u hj
  have hjl : j < l.length := by have := (List.getElem?_eq_some_iff.1 hj).1; simpa [intVs] using this
  obtain ⟨b, o, he, hc⟩ := h.at j hjl
  rw [he] at hq
  cases hq
  have hu : u = .int .i64 l[j] := by simpa [intVs, hjl] using hj.symm
  rw [hu, ← hc]
  by_cases h0 : j = 0
  · subst h0; rfl
  · simp [Addr.add, h0]
theorem own_one (w : World) (v : Value) (t : TypeId) : (w.alloc (.cells #[v] t)).ownsRow w.heap.size t 1 (.slice (some ⟨w.heap.size, 0, none⟩) 1 1) 1 [v] :=
  ⟨rfl, Or.inr ⟨w.heap.size, 1, #[v], rfl, Nat.le_refl _, heap_new w _, Nat.le_refl _, by unfold maxLen; omega, rfl, rfl⟩⟩
/-- numbers in a block of their own, as read past an older one -/
theorem own_ne_ints {w : World} {B : Nat} {v : Value} {l : List Int} {n : Nat} (hn : n = l.length) (h : w.ownsRow B 3 1 v n (intVs l)) (r : Option Nat) (hr : ∀ b, r = some b → b < B) : ∃ q c, v = .slice q n c ∧ IntsNe r w q l := by
  subst hn
  obtain ⟨q, c, rfl, hq⟩ := ownsRow_ints h
  refine ⟨q, c, rfl, fun j hj => ?_⟩
  obtain ⟨b, o, rfl, hc⟩ := hq.at j hj
  have hb := h.lt b rfl
  exact ⟨b, o, rfl, fun he => by have := hr b he.symm; omega, hc⟩
/-- numbers appended to a new empty slice -/
theorem step_ints_of {ops : Array Oper} {E : Prop} {w w0 : World} {o : Oper} {a : Act} {K : Act → World → Prop} {Q : Exit → Act → World → Prop} (hgd : o.guard = none) (s x : Operand)
    (ho : o.op = .call { callee := .builtin .append, args := #[s, x], argTypes := #[23, 23] })
    (H : Nat) (hs : a.eval s = .slice (some ⟨H, 0, none⟩) 0 0) (hown : w.ownsRow H 3 1 (.slice (some ⟨H, 0, none⟩) 0 0) 0 [])
    (q : Option Addr) (l : List Int) (c : Nat) (hx : a.eval x = .slice q l.length c) (hl : IntsAt w q l) (hE : Ext w0 w) (hH : w0.heap.size ≤ H) (hle : l.length ≤ 1000)
    (h : ∀ v' w', w'.ownsRow w0.heap.size 3 1 v' l.length (intVs l) → Ext w w' → K (a.put o.dst v') w') :
    if Region.wanted o (yielded ops a.tmps) = true then Oper.wp Tryz.prog o a w K Q else E := by
  have hw : Region.wanted o (yielded ops a.tmps) = true := by simp [Region.wanted, hgd]
  rw [if_pos hw]
  obtain ⟨i0, hi, hz0, hz1, hz2⟩ := info_parts info_a
  by_cases h0 : l.length = 0
  · have hrun := run_append_owned_zero (P := Tryz.prog) (w := w) H 23 o.type 3 i0 1 Tryz.underlying23 hi _ 0 c q [] hown
    unfold Oper.wp
    rw [h0] at hx
    simp [execOp, ho, resolve, invoke, builtin, hs, hx, hrun, Result.andThen]
    have hl0 : l = [] := List.length_eq_zero_iff.1 h0
    have := h (.slice (some ⟨H, 0, none⟩) 0 0) w (by rw [hl0]; exact ownsRow_base hown hH) (Ext.refl w)
    exact this
  · obtain ⟨b, o', rfl, -⟩ := hl.at 0 (by omega)
    refine wp_new_row s x 23 ho 3 i0 (.int .i64 0) 1 8 Tryz.underlying23 hi hz0 hz1 hz2 rfl ⟨H, 0, none⟩ hs ⟨b, o', none⟩ l.length c (intVs l) hx (by rw [intVs_len]; simp) (ints_news hl _ rfl) (by omega) (by omega) (by unfold maxLen; omega) ?_
    intro cap w' hE2 ho2 _
    exact h _ w' (ownsRow_base ho2 hE.size) hE2
/-- one number appended to numbers in memory of their own -/
theorem step_ints_snoc {ops : Array Oper} {E : Prop} {w w0 : World} {o : Oper} {a : Act} {K : Act → World → Prop} {Q : Exit → Act → World → Prop} (hgd : o.guard = none) (s x : Operand)
    (ho : o.op = .call { callee := .builtin .append, args := #[s, x], argTypes := #[23, 23] })
    (v : Value) (l : List Int) (hs : a.eval s = v) (hown : w.ownsRow w0.heap.size 3 1 v l.length (intVs l)) (g : Nat) (n : Int) (hx : a.eval x = .slice (some ⟨g, 0, none⟩) 1 1) (hc : w.cell? ⟨g, 0, none⟩ = some (.int .i64 n))
    (hE : Ext w0 w) (hle : l.length ≤ 1000)
    (h : ∀ q c w', (∀ r : Option Nat, (∀ b, r = some b → b < w0.heap.size) → IntsNe r w' q (l ++ [n])) → StpK w0 w' → K (a.put o.dst (.slice q (l.length + 1) c)) w') :
    if Region.wanted o (yielded ops a.tmps) = true then Oper.wp Tryz.prog o a w K Q else E := by
  obtain ⟨i0, hi, hz0, hz1, hz2⟩ := info_parts info_a
  refine step_append_lies w hgd s x 23 ho w0.heap.size 3 i0 (.int .i64 0) 1 8 Tryz.underlying23 hi hz0 hz1 hz2 rfl (by decide) v l.length (intVs l) hs hown ⟨g, 0, none⟩ 1 1 [.int .i64 n] hx rfl (fun j u hj => ?_) (one_int _) (by decide) (by unfold maxLen; omega) (by omega) hE.size _ rfl ?_
  · match j, hj with
    | 0, hj =>
      simp at hj
      subst hj
      simpa [Addr.add] using hc
  · intro g2 cap w' ho2 hg2 _ _
    have e : intVs l ++ [Value.int .i64 n] = intVs (l ++ [n]) := by simp [intVs]
    rw [e] at ho2
    refine h _ cap w' (fun r hr => ?_) (grown_step hE hg2 fun b hb => (hown.lt b hb).1)
    obtain ⟨q', c', he, hn⟩ := own_ne_ints (by simp) ho2 r hr
    cases he
    exact hn
theorem one_cellE {w w' : World} {v : Value} {t : TypeId} {g : Nat} (hE : Ext (w.alloc (.cells #[v] t)) w') (hg : g = w.heap.size) : w'.cell? ⟨g, 0, none⟩ = some v := by
  subst hg
  exact hE.cell (cell_of_heap (heap_new w (.cells #[v] t)) 0)
end Go.Proofs.YtppncdbhebgcaaaGreatDoor
