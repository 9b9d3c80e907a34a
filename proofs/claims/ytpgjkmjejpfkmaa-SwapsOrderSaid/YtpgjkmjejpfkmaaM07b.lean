/- Writes into a visit in memory of its own. -/
import Derived.Test.YtpgjkmjejpfkmaaC07e
import Derived.Test.YtpgjkmjejpfkmaaM07a
namespace Go.Proofs.Ytpgjkmjejpfkmaa
open Go.RowKit

theorem ownsRow_set {w : World} {B g n c i : Nat} {l : List Int} {m : Int} (h : w.ownsRow B 3 1 (.slice (some ⟨g, 0, none⟩) n c) n (intVs l)) (_hi : i < l.length) :
    (w.setCell ⟨g, i, none⟩ (.int .i64 m)).ownsRow B 3 1 (.slice (some ⟨g, 0, none⟩) n c) n (intVs (l.set i m)) := by
  have hl : (intVs (l.set i m)).length = (intVs l).length := by simp [intVs]
  refine ⟨hl.trans h.1, ?_⟩
  rcases h.2 with ⟨hv, h0⟩ | ⟨g', cap, cur, hv, hB, hg, hc, hm, hs, hx⟩
  · cases hv
  · cases hv
    refine Or.inr ⟨g, c, cur.setIfInBounds i (.int .i64 m), rfl, hB, heap_set hg rfl, hc, hm, by simpa using hs, ?_⟩
    rw [Array.toList_setIfInBounds, List.take_set, hx]
    simp [intVs, List.map_set]
theorem ownsRow_cell {w : World} {B g n c i : Nat} {l : List Int} (h : w.ownsRow B 3 1 (.slice (some ⟨g, 0, none⟩) n c) n (intVs l)) (hi : i < l.length) :
    w.cell? ⟨g, i, none⟩ = some (.int .i64 l[i]) ∧ w.frozen? ⟨g, i, none⟩ = false := by
  have hn : n = l.length := by have := h.1; rw [intVs_len] at this; omega
  constructor
  · obtain ⟨b, c', he, hc⟩ := ownsRow_at h i (by omega)
    cases he
    rw [hc]
    simp [intVs, hi]
  · rcases h.2 with ⟨hv, h0⟩ | ⟨g', cap, cur, hv, hB, hg, -⟩
    · cases hv
    · cases hv
      exact cell_frozen hg i
theorem rows_set {w : World} {B i j : Nat} {v : Value} {L : List (List Int)} {g c : Nat → Nat} {m : Int} (h : RowsOwn w B v L g c) (hi : i < L.length) (hj : j < L[i].length) :
    RowsOwn (w.setCell ⟨g i, j, none⟩ (.int .i64 m)) B v (L.set i (L[i].set j m)) g c := by
  have hbut := setCell_but w (g i) j (.int .i64 m)
  have hlen : ∀ k, ((L.set i (L[i].set j m)).getD k []).length = (L.getD k []).length := by
    intro k
    simp only [List.getD_eq_getElem?_getD, List.getElem?_set]
    by_cases hk : i = k
    · subst hk
      simp [hi]
    · simp [hk]
  have hrow : ∀ k, rowV (L.set i (L[i].set j m)) g c k = rowV L g c k := by
    intro k
    unfold rowV
    rw [hlen]
  refine ⟨?_, ?_, ?_, ?_⟩
  · rw [List.length_set, List.map_congr_left (fun k _ => hrow k)]
    exact ownsRow_but h.out hbut (h.apart i hi)
  · intro k hk
    rw [List.length_set] at hk
    rw [hrow, hlen]
    by_cases hki : k = i
    · subst hki
      have h1 := h.row k hk
      have e1 : L.getD k [] = L[k] := getD_of_lt _ _ _ hk
      have e2 : (L.set k (L[k].set j m)).getD k [] = L[k].set j m := by
        rw [getD_of_lt _ _ _ (by rw [List.length_set]; exact hk)]
        simp
      rw [e2]
      have h2 := ownsRow_set (m := m) (i := j) h1 (by rw [e1]; exact hj)
      rw [e1] at h2
      rw [e1]
      unfold rowV at *
      rw [e1] at *
      exact h2
    · have e2 : (L.set i (L[i].set j m)).getD k [] = L.getD k [] := by
        simp only [List.getD_eq_getElem?_getD, List.getElem?_set]
        rw [if_neg (Ne.symm hki)]
      rw [e2]
      refine ownsRow_but (h.row k hk) hbut ?_
      intro he
      have he' : g k = g i := by simpa [rowV, Value.ownBlock] using he
      by_cases hlt : k < i
      · exact h.inj k i hlt hi he'
      · exact h.inj i k (by omega) hk he'.symm
  · intro k hk
    rw [List.length_set] at hk
    exact h.apart k hk
  · intro a b hab hb
    rw [List.length_set] at hb
    exact h.inj a b hab hb

theorem CloneOwn.ext {w w' : World} {B : Nat} {S : Swap} {v0 v1 v2 v3 : Value} {g0 k0 g2 k2 : Nat → Nat} (h : CloneOwn w B S v0 v1 v2 v3 g0 k0 g2 k2) (hE : Ext w w') : CloneOwn w' B S v0 v1 v2 v3 g0 k0 g2 k2 :=
  ⟨h.b.ext hE, ownsRow_ext h.s hE, h.e.ext hE, ownsRow_ext h.k hE, h.bs, h.be, h.bk, h.es, h.sk, h.ek⟩
theorem CloneOwn.but {w w' : World} {B l : Nat} {S : Swap} {v0 v1 v2 v3 : Value} {g0 k0 g2 k2 : Nat → Nat} (h : CloneOwn w B S v0 v1 v2 v3 g0 k0 g2 k2) (hb : But l w w')
    (n0 : ¬inR v0 S.boxes g0 l) (n1 : v1.ownBlock ≠ some l) (n2 : ¬inR v2 S.earn g2 l) (n3 : v3.ownBlock ≠ some l) : CloneOwn w' B S v0 v1 v2 v3 g0 k0 g2 k2 :=
  ⟨h.b.but hb n0, ownsRow_but h.s hb n1, h.e.but hb n2, ownsRow_but h.k hb n3, h.bs, h.be, h.bk, h.es, h.sk, h.ek⟩
theorem CloneOwn.high {w w' : World} {B l : Nat} {S : Swap} {v0 v1 v2 v3 : Value} {g0 k0 g2 k2 : Nat → Nat} (h0 : CloneOwn w B S v0 v1 v2 v3 g0 k0 g2 k2) {w6 : World} (h : CloneOwn w6 B S v0 v1 v2 v3 g0 k0 g2 k2) (hb : But l w6 w') (hl : w.heap.size ≤ l) :
    CloneOwn w' B S v0 v1 v2 v3 g0 k0 g2 k2 :=
  h.but hb (fun k => by have := h0.b.bd k; omega) (fun k => by have := h0.s.lt l k; omega) (fun k => by have := h0.e.bd k; omega) (fun k => by have := h0.k.lt l k; omega)
theorem own_cap {w : World} {B : Nat} {e : TypeId} {size : Nat} {p : Option Addr} {n m c : Nat} {xs : List Value} (h : w.ownsRow B e size (.slice p m c) n xs) : n ≤ c := by
  rcases h.2 with ⟨hv, h0⟩ | ⟨g, cap, cur, hv, -, -, hc, -⟩
  · omega
  · cases hv; exact hc
/-- a number of the stock written -/
theorem CloneOwn.setStock {w : World} {B b c i : Nat} {S : Swap} {v0 v2 v3 : Value} {g0 k0 g2 k2 : Nat → Nat} {m : Int} (h : CloneOwn w B S v0 (.slice (some ⟨b, 0, none⟩) S.stock.length c) v2 v3 g0 k0 g2 k2) (hi : i < S.stock.length) :
    CloneOwn (w.setCell ⟨b, i, none⟩ (.int .i64 m)) B { S with stock := S.stock.set i m } v0 (.slice (some ⟨b, 0, none⟩) S.stock.length c) v2 v3 g0 k0 g2 k2 := by
  have hbut := setCell_but w b i (.int .i64 m)
  refine ⟨h.b.but hbut (fun k => h.bs b k rfl), ?_, h.e.but hbut (fun k => h.es b k rfl), ownsRow_but h.k hbut (h.sk b rfl), h.bs, h.be, h.bk, h.es, h.sk, h.ek⟩
  have := ownsRow_set (m := m) h.s hi
  simpa using this
/-- a number of what titles earn written -/
theorem CloneOwn.setEarn {w : World} {B i j : Nat} {S : Swap} {v0 v1 v2 v3 : Value} {g0 k0 g2 k2 : Nat → Nat} {m : Int} (h : CloneOwn w B S v0 v1 v2 v3 g0 k0 g2 k2) (hi : i < S.earn.length) (hj : j < S.earn[i].length) :
    CloneOwn (w.setCell ⟨g2 i, j, none⟩ (.int .i64 m)) B { S with earn := S.earn.set i (S.earn[i].set j m) } v0 v1 v2 v3 g0 k0 g2 k2 := by
  have hbut := setCell_but w (g2 i) j (.int .i64 m)
  have hin : inR v2 S.earn g2 (g2 i) := Or.inr ⟨i, hi, rfl⟩
  have hR : ∀ x, inR v2 (S.earn.set i (S.earn[i].set j m)) g2 x → inR v2 S.earn g2 x := by
    rintro x (hx | ⟨k, hk, hx⟩)
    · exact Or.inl hx
    · rw [List.length_set] at hk; exact Or.inr ⟨k, hk, hx⟩
  exact ⟨h.b.but hbut (fun k => h.be _ k hin), ownsRow_but h.s hbut (h.es _ hin), rows_set h.e hi hj, ownsRow_but h.k hbut (h.ek _ hin),
    h.bs, fun x hx hx2 => h.be x hx (hR x hx2), h.bk, fun x hx => h.es x (hR x hx), h.sk, fun x hx => h.ek x (hR x hx)⟩
end Go.Proofs.Ytpgjkmjejpfkmaa
