
/- A few numbers sorted: insertion sort, plain law and walk; slices.Sort. Charts: the walks of nth and Cut. Charts: the walks of titles, Top and May. Charts: the walks of open and Next. Charts: the walk of Needs. Charts: how many orders there are: the walks of orders and Orders. -/
import Derived.Test.YtppncdbhebgcaaaCB
import Derived.Test.YtppncdbhebgcaaaQ9b
import Derived.Maps.OwnSet
namespace Go.Proofs.Ytppncdbhebgcaaa
open Go.RowKit

def swpL (l : List Int) (i j : Nat) : List Int := (l.set i (l.getD j 0)).set j (l.getD i 0)
theorem swpL_len (l : List Int) (i j : Nat) : (swpL l i j).length = l.length := by simp [swpL]
theorem getD_set (l : List Int) (i : Nat) (v : Int) (k : Nat) (h : i < l.length) : (l.set i v).getD k 0 = if i = k then v else l.getD k 0 := by
  rw [List.getD_eq_getElem?_getD, List.getElem?_set]
  by_cases e : i = k
  · rw [if_pos e, if_pos e, if_pos h]; rfl
  · rw [if_neg e, if_neg e, List.getD_eq_getElem?_getD]
theorem swpL_get {l : List Int} {i j : Nat} (hi : i < l.length) (hj : j < l.length) (k : Nat) : (swpL l i j).getD k 0 = if j = k then l.getD i 0 else if i = k then l.getD j 0 else l.getD k 0 := by
  unfold swpL
  rw [getD_set _ _ _ _ (by rw [List.length_set]; exact hj), getD_set _ _ _ _ hi]
theorem swpL_perm {l : List Int} {i j : Nat} (hi : i < l.length) (hj : j < l.length) : (swpL l i j).Perm l := by
  unfold swpL
  rw [List.getD_eq_getElem?_getD, List.getD_eq_getElem?_getD, List.getElem?_eq_getElem hi, List.getElem?_eq_getElem hj]
  exact List.set_set_perm hi hj
/-- the first i are sorted -/
def SrtTo (R : Int → Int → Prop) (l : List Int) (i : Nat) : Prop := ∀ a b, a < b → b < i → R (l.getD a 0) (l.getD b 0)
/-- the first ones are sorted but for the one at j, which is still on its way -/
structure InsI (R : Int → Int → Prop) (l : List Int) (i j : Nat) : Prop where
  ji : j ≤ i
  il : i < l.length
  pr : ∀ a b, a < b → b ≤ i → b ≠ j → R (l.getD a 0) (l.getD b 0)
section
variable {R : Int → Int → Prop} {l : List Int} {i j : Nat}
theorem InsI.start (h : SrtTo R l i) (hi : i < l.length) : InsI R l i i := ⟨Nat.le_refl _, hi, fun a b hab hb hne => h a b hab (by omega)⟩
theorem InsI.stop (hT : ∀ x y z, R x y → R y z → R x z) (h : InsI R l i j) (hs : j = 0 ∨ R (l.getD (j - 1) 0) (l.getD j 0)) : SrtTo R l (i + 1) := by
  intro a b hab hb
  by_cases e : b = j
  · subst e
    rcases hs with h0 | h1
    · omega
    · by_cases c : a = b - 1
      · rw [c]; exact h1
      · exact hT _ _ _ (h.pr a (b - 1) (by omega) (by omega) (by omega)) h1
  · exact h.pr a b hab (by omega) e
theorem InsI.step (h : InsI R l i (j + 1)) (hr : R (l.getD (j + 1) 0) (l.getD j 0)) : InsI R (swpL l (j + 1) j) i j := by
  have hi := h.il
  have hji := h.ji
  refine ⟨by omega, by rw [swpL_len]; exact hi, fun a b hab hb hne => ?_⟩
  rw [swpL_get (by omega) (by omega), swpL_get (by omega) (by omega)]
  by_cases b1 : j + 1 = b
  · subst b1
    rw [if_neg (by omega : ¬j = j + 1), if_pos rfl]
    by_cases a1 : j = a
    · rw [if_pos a1]; exact hr
    · rw [if_neg a1, if_neg (by omega)]
      exact h.pr a j (by omega) (by omega) (by omega)
  · have hb' : ¬j = b := fun e => hne e.symm
    rw [if_neg hb', if_neg b1]
    by_cases a1 : j = a
    · rw [if_pos a1]; exact h.pr (j + 1) b (by omega) hb (fun e => b1 e.symm)
    · rw [if_neg a1]
      by_cases a2 : j + 1 = a
      · rw [if_pos a2]; exact h.pr j b (by omega) hb (fun e => b1 e.symm)
      · rw [if_neg a2]; exact h.pr a b hab hb (fun e => b1 e.symm)
theorem SrtTo.pairwise (h : SrtTo R l l.length) : l.Pairwise R := by
  rw [List.pairwise_iff_getElem]
  intro a b ha hb hab
  have := h a b hab hb
  rwa [List.getD_eq_getElem?_getD, List.getD_eq_getElem?_getD, List.getElem?_eq_getElem ha, List.getElem?_eq_getElem hb] at this
end
theorem getI_at {l : List Int} {i : Nat} (h : i < l.length) : l.getD i 0 = l[i] := by
  rw [List.getD_eq_getElem?_getD, List.getElem?_eq_getElem h]; rfl
set_option maxRecDepth 20000 in
theorem isNaN_i (x : Int) (w : World) : Calls Try.prog 62 #[.int .i64 x] w (RetE (.bool false) w) := by
  go_enter Try.func62, Try.ntmps62
  go_wp2
  go_ret
  exact RetE.fin (by repeat (first | exact Ext.refl _ | assumption | refine Ext.drewN ?_ _ | refine Ext.drew ?_ | refine Ext.alloc ?_ _)) rfl
end Go.Proofs.Ytppncdbhebgcaaa
namespace Go.Proofs.Ytppncdbhebgcaaa
open Go.RowKit

end Go.Proofs.Ytppncdbhebgcaaa
namespace Go.Proofs.Ytppncdbhebgcaaa
open Go.RowKit

end Go.Proofs.Ytppncdbhebgcaaa
namespace Go.Proofs.Ytppncdbhebgcaaa
open Go.RowKit

theorem IntsNe.ups {g : Nat} {w w' : World} {q : Option Addr} {l : List Int} (h : IntsNe (some g) w q l) (hU : Ups g w w') : IntsNe (some g) w' q l := by
  intro j hj
  obtain ⟨b, o, hq, hn, hc⟩ := h j hj
  exact ⟨b, o, hq, hn, hU.cell hc (fun e => hn (by rw [e]))⟩
/-- a table whose rows lie in other blocks than its own -/
def PinAt (w : World) (B gt n cap : Nat) (L : Tab) : Prop :=
  L.length = n ∧ ∃ vs, w.ownsRow B 26 1 (.slice (some ⟨gt, 0, none⟩) n cap) n vs ∧ ∀ i (h : i < L.length), ∃ p c, L[i].length ≤ c ∧ vs[i]? = some (.slice p L[i].length c) ∧ IntsNe (some gt) w p L[i]
section
variable {w w' : World} {B gt n cap : Nat} {L : Tab}
theorem PinAt.ext (h : PinAt w B gt n cap L) (hE : Ext w w') : PinAt w' B gt n cap L := by
  obtain ⟨h1, vs, h2, h3⟩ := h
  exact ⟨h1, vs, ownsRow_ext h2 hE, fun i hi => by obtain ⟨p, c, k1, k2, k3⟩ := h3 i hi; exact ⟨p, c, k1, k2, k3.ext hE⟩⟩
theorem PinAt.row (h : PinAt w B gt n cap L) {i : Nat} (hi : i < n) : ∃ p c, (rowT L i).length ≤ c ∧ w.cell? ⟨gt, i, none⟩ = some (.slice p (rowT L i).length c) ∧ IntsNe (some gt) w p (rowT L i) ∧ w.frozen? ⟨gt, i, none⟩ = false := by
  obtain ⟨h1, vs, h2, h3⟩ := h
  obtain ⟨p, c, k1, k2, k3⟩ := h3 i (by omega)
  obtain ⟨b, cc, he, hc⟩ := ownsRow_at h2 i hi
  cases he
  rw [k2] at hc
  rw [rowT_get (by omega)]
  refine ⟨p, c, k1, hc, k3, ?_⟩
  rcases h2.2 with ⟨hv, -⟩ | ⟨g', cap, cur, hv, -, hg, -⟩
  · cases hv
  · cases hv; exact cell_frozen hg i
theorem PinAt.lists (h : PinAt w B gt n cap L) : ListsAt w (some ⟨gt, 0, none⟩) L := by
  intro i hi
  obtain ⟨p, c, -, hc, hn, -⟩ := h.row (i := i) (by have := h.1; omega)
  rw [rowT_get hi] at hc hn
  exact ⟨gt, 0, _, rfl, by rw [Nat.zero_add]; exact hc, p, c, rfl, hn.ints⟩
theorem PinAt.set (h : PinAt w B gt n cap L) {i : Nat} (hi : i < n) {p : Option Addr} {r : List Int} {c : Nat} (hn : IntsNe (some gt) w p r) (hc : r.length ≤ c) : PinAt (w.setCell ⟨gt, i, none⟩ (.slice p r.length c)) B gt n cap (L.set i r) := by
  obtain ⟨h1, vs, h2, h3⟩ := h
  have hU : Ups gt w (w.setCell ⟨gt, i, none⟩ (.slice p r.length c)) := (Ups.refl _ _).setCell _ _
  refine ⟨by rw [List.length_set]; exact h1, _, ownsRow_setV h2, fun j hj => ?_⟩
  rw [List.length_set] at hj
  by_cases e : i = j
  · subst e
    have hvl : i < vs.length := by have := h2.1; omega
    rw [List.getElem_set_self]
    exact ⟨p, c, hc, List.getElem?_set_self hvl, hn.ups hU⟩
  · obtain ⟨p', c', k1, k2, k3⟩ := h3 j hj
    rw [List.getElem_set_ne e]
    exact ⟨p', c', k1, by rw [List.getElem?_set_ne e]; exact k2, k3.ups hU⟩
end
end Go.Proofs.Ytppncdbhebgcaaa
namespace Go.Proofs.Ytppncdbhebgcaaa
open Go.RowKit

end Go.Proofs.Ytppncdbhebgcaaa
namespace Go.Proofs.Ytppncdbhebgcaaa
open Go.RowKit Go.Maps

/-- a map of what is gone -/
def GoneM (w : World) (b n : Nat) (S : Nat → Bool) (cnt : Nat) : Prop :=
  ∃ D : DataW Unit, w.ownsMap Try.prog 3 (plainElem Try.prog 3) b n D ∧ Tidy D ∧ Go.Maps.size D = cnt ∧ (∀ i : Nat, D.atKey (.int .i64 i) (.lit (.int .i64 0)) = .lit (.int .i64 (if S i = true then 1 else 0))) ∧ ∀ i : Nat, has D (.int .i64 i) = S i
theorem GoneM.ext {w w' : World} {b n : Nat} {S : Nat → Bool} {cnt : Nat} (h : GoneM w b n S cnt) (hE : Ext w w') : GoneM w' b n S cnt := by
  obtain ⟨D, ⟨es, clock, hb, hF⟩, h2⟩ := h
  exact ⟨D, ⟨es, clock, heap_ext3 hb hE, hF⟩, h2⟩
theorem GoneM.mono {w : World} {b n n' : Nat} {S : Nat → Bool} {cnt : Nat} (h : GoneM w b n S cnt) (hn : n ≤ n') : GoneM w b n' S cnt := by
  obtain ⟨D, h1, h2⟩ := h
  exact ⟨D, h1.mono hn, h2⟩
theorem GoneM.lt {w : World} {b n : Nat} {S : Nat → Bool} {cnt : Nat} (h : GoneM w b n S cnt) : b < w.heap.size := by
  obtain ⟨D, h1, -⟩ := h
  exact h1.lt
theorem GoneM.made (w : World) : GoneM (w.alloc (.map #[] 0)) w.heap.size 0 (fun _ => false) 0 :=
  ⟨.map [], World.ownsMap_made w Try.prog 3 _, tidy_empty, rfl, fun _ => rfl, fun _ => rfl⟩
end Go.Proofs.Ytppncdbhebgcaaa
