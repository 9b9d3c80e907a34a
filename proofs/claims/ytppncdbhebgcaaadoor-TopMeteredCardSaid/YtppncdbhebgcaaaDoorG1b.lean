
/- TopMetered: the walk of metered; a meter whose rows grow. -/
import Derived.Test.YtppncdbhebgcaaaDoorG1a
import Derived.Test.YtppncdbhebgcaaaDoorYB
import Derived.Test.YtppncdbhebgcaaaDoorOpY
namespace Go.Proofs.YtppncdbhebgcaaaDoor
open Go.RowKit

def exMt : Mt := ⟨[(0, 150)], [(0, 95), (1, 10)], 0⟩
theorem exMt_valid : ValidM exMt := by
  refine ⟨by decide, by decide, by decide, by decide, fun x hx => ?_, fun r hr => ?_⟩
  · have : x = (0, 150) := by simpa [exMt] using hx
    subst this
    decide
  · have : r = (0, 95) ∨ r = (1, 10) := by simpa [exMt] using hr
    rcases this with rfl | rfl <;> decide
theorem exMt_tru {D : Nat → Int} : Tru exMt D ↔ (0 ≤ D 1 - D 0 ∧ D 1 - D 0 ≤ 150) ∧ D 0 % 100 = 95 ∧ D 1 % 100 = 10 := by
  have hs : Seg exMt D 0 exMt.weeks.length ↔ (0 ≤ D 1 - D 0 ∧ D 1 - D 0 ≤ 150) := by
    constructor
    · intro h
      exact h 0 (Nat.le_refl _) (show 0 < 1 by omega)
    · intro h i h0 h1
      have h1' : i < 1 := h1
      obtain rfl : i = 0 := by omega
      exact h
  have hw : ((Wd exMt D : Nat) : Int) ≤ exMt.wrong ↔ D 0 % 100 = 95 ∧ D 1 % 100 = 10 := by
    show ((wIn exMt.reads D (fun _ => true) : Nat) : Int) ≤ 0 ↔ _
    have : wIn exMt.reads D (fun _ => true) = 0 ↔ D 0 % 100 = 95 ∧ D 1 % 100 = 10 := by
      unfold wIn
      rw [List.countP_eq_zero]
      constructor
      · intro h
        have h1 := h (0, 95) (by simp [exMt])
        have h2 := h (1, 10) (by simp [exMt])
        simp at h1 h2
        exact ⟨h1, h2⟩
      · rintro ⟨h1, h2⟩ r hr
        have : r = (0, 95) ∨ r = (1, 10) := by simpa [exMt] using hr
        rcases this with rfl | rfl <;> simp [h1, h2]
    omega
  exact and_congr hs hw
theorem two_of {l : List Int} {x y : Int} (hxy : x < y) (h1 : l.Pairwise (· < ·)) (h : ∀ z, z ∈ l ↔ z = x ∨ z = y) : l = [x, y] := by
  refine List.Perm.eq_of_pairwise (le := fun a b : Int => a < b) (fun a b _ _ h3 h4 => by omega) h1 (by simp [hxy]) ?_
  refine (List.perm_ext_iff_of_nodup (h1.imp fun h => by omega) (by simp; omega)).2 fun z => ?_
  rw [h z]
  simp
theorem exMt_sums : sumsA exMt 0 1 = [15, 115] ∧ askV exMt (areB 0 1 exMt.weeks.length) = 0 := by
  have hz : askV exMt true = 0 := (askV_iff exMt_valid).2 ⟨fun i => if i = 0 then 95 else 110, exMt_tru.2 (by simp)⟩
  have hB : areB 0 1 exMt.weeks.length = true := by decide
  refine ⟨two_of (by omega) ?_ fun y => ?_, by rw [hB]; exact hz⟩
  · rw [(sumsA_list exMt_valid hB hz).1]
    exact List.pairwise_map.2 ((bitsN_rises _).imp fun h => by omega)
  · rw [sumsA_mem exMt_valid hB hz]
    show PlaysP exMt 0 1 y ↔ _
    constructor
    · rintro ⟨D, hD, rfl⟩
      have := exMt_tru.1 hD
      omega
    · intro h
      refine ⟨fun i => if i = 0 then 95 else 95 + y, exMt_tru.2 ?_, by simp; omega⟩
      simp
      omega

set_option maxRecDepth 20000 in
set_option maxHeartbeats 3200000 in
theorem metered04 (w : World) (hT : TabW w) : Calls Tryd.prog 4 #[] w (RetE (.bool true) w) := by
  obtain ⟨s0, hs0⟩ : ∃ s, s = w.heap.size := ⟨_, rfl⟩
  obtain ⟨W, hW⟩ : ∃ W, W = (w.alloc (.cells #[.int .i64 0, .int .i64 150] 43)).alloc (.cells #[.int .i64 0, .int .i64 95, .int .i64 1, .int .i64 10] 27) := ⟨_, rfl⟩
  have hE : Ext w W := by rw [hW]; exact ((Ext.refl w).alloc _).alloc _
  have m0 : W.heap[s0]? = some (.cells #[.int .i64 0, .int .i64 150] 43) := by rw [hs0, hW]; exact heap_ext3 (heap_new _ _) ((Ext.refl _).alloc _)
  have m1 : W.heap[s0 + 1]? = some (.cells #[.int .i64 0, .int .i64 95, .int .i64 1, .int .i64 10] 27) := by rw [hs0, hW]; exact heap_new2 _ _ _
  have hv : MtV W (.agg #[.slice (some ⟨s0, 0, none⟩) 1 1, .slice (some ⟨s0 + 1, 0, none⟩) 2 2, .int .i64 0]) exMt :=
    ⟨_, 1, _, 2, rfl, PairsAt.cells (l := exMt.weeks) (t := 43) (f := (0, 0)) m0, PairsAt.cells (l := exMt.reads) (t := 27) (f := (0, 0)) m1⟩
  have HS := Lib.hid (by
    have h := Sums04 exMt 0 1 _ W hv (by decide) (by decide) (hT.ext hE)
    have h1 := exMt_sums.1
    have h2 := exMt_sums.2
    unfold sumsA at h1
    rw [h1, h2] at h
    exact ExtW.callL (x := ⟨W, Ext.refl W⟩) h)
  have HE := Lib.hid hE
  have HSI := Lib.hid (fun p c y (h : IntsAt y p [15, 115]) => (by
    have h2 := SameInts02 p (some ⟨y.heap.size, 0, none⟩) [15, 115] [15, 115] c 2 (y.alloc (.cells #[.int .i64 15, .int .i64 115] 3)) (by decide) (by decide) (h.ext ((Ext.refl y).alloc _)) (IntsAt.cells [15, 115] (heap_new _ _))
    rw [decide_eq_true rfl] at h2
    exact h2 : Calls Tryd.prog 11 #[.slice p 2 c, .slice (some ⟨y.heap.size, 0, none⟩) 2 2] (y.alloc (.cells #[.int .i64 15, .int .i64 115] 3)) (RetE (.bool true) (y.alloc (.cells #[.int .i64 15, .int .i64 115] 3)))))
  clear m0 m1 hv hE hT
  go_enter Tryd.func4, Tryd.ntmps4
  go_upto_region 2 with (go_at_call 8; rw [← hs0, ← hW]; refine HS.out.mono ?_; rintro e _ ⟨p1, c1, rfl, x1, rfl, -, hi1, -⟩)
  have HE2 := Lib.hid (HE.out.trans x1.h)
  have HI1 := Lib.hid hi1
  clear hi1 HS
  go_wp2_with (go_at_call 11; refine (HSI.out _ _ _ HI1.out).mono ?_; rintro e w2 ⟨rfl, hE3⟩)
  go_ret
  exact RetE.fin ((HE2.out.alloc _).trans hE3) rfl

/-! a meter whose rows grow, beside a row of numbers -/
structure MdG (W1 w : World) (b B : Nat) (vP : Value) (lP : List Int) (vW : Value) (lW : List (Int × Int)) (vR : Value) (lR : List (Int × Int)) : Prop where
  ext : Ext W1 w
  hB : B = W1.heap.size
  hb : B ≤ b
  m : w.heap[b]? = some (.cells #[vW, vR, .int .i64 0] 31)
  P : w.ownsRow B 3 1 vP lP.length (intVs lP)
  W : w.ownsRow B 43 2 vW lW.length (pairVs lW)
  R : w.ownsRow B 27 2 vR lR.length (pairVs lR)
theorem own_not3 {w : World} {B size n g : Nat} {e t : TypeId} {v : Value} {xs : List Value} {cs : Array Value} {f : Nat × Nat} (h : w.ownsRow B e size v n xs) (hm : w.heap[g]? = some (.cells cs t f)) (ht : t ≠ e) : some g ≠ v.ownBlock := by
  intro hg
  rcases h.2 with ⟨hv, -⟩ | ⟨g1, cap, cur, hv, -, hm1, -⟩
  · rw [hv] at hg; cases hg
  · rw [hv] at hg
    cases hg
    rw [hm] at hm1
    injection hm1 with h1
    injection h1 with _ h2
    exact ht h2
theorem own_setM {w : World} {B size n b o : Nat} {e t : TypeId} {v u : Value} {xs : List Value} {cs : Array Value} {f : Nat × Nat} (h : w.ownsRow B e size v n xs) (hm : w.heap[b]? = some (.cells cs t f)) (ht : t ≠ e) : (w.setCell ⟨b, o, none⟩ u).ownsRow B e size v n xs := by
  have hF : Fr (fun k => k = b) w (w.setCell ⟨b, o, none⟩ u) := (Fr.refl _ w).set (c := b) rfl
  exact ownsRow_fr h hF fun g hg e => own_not3 h hm ht (by rw [hg, e])
section
variable {W1 w w' : World} {b B : Nat} {vP vW vR v' : Value} {lP l1 : List Int} {lW lR l2 : List (Int × Int)}
theorem MdG.ext' (h : MdG W1 w b B vP lP vW lW vR lR) (hE : Ext w w') : MdG W1 w' b B vP lP vW lW vR lR :=
  ⟨h.ext.trans hE, h.hB, h.hb, heap_ext3 h.m hE, ownsRow_ext h.P hE, ownsRow_ext h.W hE, ownsRow_ext h.R hE⟩
theorem MdG.low {r : Option Nat} (h : MdG W1 w b B vP lP vW lW vR lR) (hG : GrB r w w') (hr : ∀ k, r = some k → B ≤ k) : Ext W1 w' := Below.grown h.ext hG h.ext.size (fun k hk => by have := hr k hk; have := h.hB; omega)
theorem MdG.growP (h : MdG W1 w b B vP lP vW lW vR lR) (hG : GrB vP.ownBlock w w') (ho : w'.ownsRow B 3 1 v' l1.length (intVs l1)) : MdG W1 w' b B v' l1 vW lW vR lR :=
  ⟨h.low hG fun k hk => (h.P.lt k hk).1, h.hB, h.hb, hG.keep h.m (own_not3 h.P h.m (by decide)), ho, ownsRow_fr h.W (grown_fr hG) (fun g hg e => own_ne2 h.W h.P (by decide) g hg e), ownsRow_fr h.R (grown_fr hG) (fun g hg e => own_ne2 h.R h.P (by decide) g hg e)⟩
theorem MdG.setW (h : MdG W1 w b B vP lP vW lW vR lR) (hG : GrB vW.ownBlock w w') (ho : w'.ownsRow B 43 2 v' l2.length (pairVs l2)) : MdG W1 (w'.setCell ⟨b, 0, none⟩ v') b B vP lP v' l2 vR lR := by
  have hm := hG.keep h.m (own_not3 h.W h.m (by decide))
  have hb := h.hb
  have hB := h.hB
  exact ⟨Ext.setCell (h.low hG fun k hk => (h.W.lt k hk).1) (p := ⟨b, 0, none⟩) (by show W1.heap.size ≤ b; omega) _, h.hB, h.hb, heap_set hm rfl,
    own_setM (ownsRow_fr h.P (grown_fr hG) (fun g hg e => own_ne2 h.P h.W (by decide) g hg e)) hm (by decide), own_setM ho hm (by decide), own_setM (ownsRow_fr h.R (grown_fr hG) (fun g hg e => own_ne2 h.R h.W (by decide) g hg e)) hm (by decide)⟩
theorem MdG.setR (h : MdG W1 w b B vP lP vW lW vR lR) (hG : GrB vR.ownBlock w w') (ho : w'.ownsRow B 27 2 v' l2.length (pairVs l2)) : MdG W1 (w'.setCell ⟨b, 1, none⟩ v') b B vP lP vW lW v' l2 := by
  have hm := hG.keep h.m (own_not3 h.R h.m (by decide))
  have hb := h.hb
  have hB := h.hB
  exact ⟨Ext.setCell (h.low hG fun k hk => (h.R.lt k hk).1) (p := ⟨b, 1, none⟩) (by show W1.heap.size ≤ b; omega) _, h.hB, h.hb, heap_set hm rfl,
    own_setM (ownsRow_fr h.P (grown_fr hG) (fun g hg e => own_ne2 h.P h.R (by decide) g hg e)) hm (by decide), own_setM (ownsRow_fr h.W (grown_fr hG) (fun g hg e => own_ne2 h.W h.R (by decide) g hg e)) hm (by decide), own_setM ho hm (by decide)⟩
theorem row_pairsN {e : TypeId} {v : Value} {l : List (Int × Int)} (h : w.ownsRow B e 2 v l.length (pairVs l)) : ∃ p c, v = .slice p l.length c ∧ PairsAt w p l := by
  rcases h.2 with ⟨hv, h0⟩ | ⟨g, cap, cur, hv, -⟩
  · obtain rfl : l = [] := List.length_eq_zero_iff.1 h0
    exact ⟨none, 0, hv, PairsAt.nil _ _⟩
  · subst hv
    exact ⟨_, cap, rfl, row_pairs h⟩
theorem MdG.mt {st fe mo : Int} {L : List Int} (h : MdG W1 w b B vP lP vW (metM st fe mo L).weeks vR (metM st fe mo L).reads) : MtV w (.agg #[vW, vR, .int .i64 0]) (metM st fe mo L) := by
  obtain ⟨p, c, rfl, h1⟩ := row_pairsN h.W
  obtain ⟨q, d, rfl, h2⟩ := row_pairsN h.R
  exact ⟨p, c, q, d, rfl, h1, h2⟩
end
theorem pairVs_snoc1 (l : List (Int × Int)) (a b : Int) : pairVs (l ++ [(a, b)]) = pairVs l ++ [.int .i64 a, .int .i64 b] := by
  refine List.ext_getElem? fun i => ?_
  rcases Nat.lt_or_ge i (l.length * 2) with h | h
  · rw [List.getElem?_append_left (by rw [pairVs_len]; exact h)]
    unfold pairVs
    rw [List.getElem?_map, List.getElem?_map, List.getElem?_range (by rw [List.length_append, List.length_singleton]; omega), List.getElem?_range h]
    simp [List.getD_eq_getElem?_getD, List.getElem?_append_left (show i / 2 < l.length by omega)]
  · rw [List.getElem?_append_right (by rw [pairVs_len]; exact h), pairVs_len]
    have h3 : i = l.length * 2 ∨ i = l.length * 2 + 1 ∨ l.length * 2 + 2 ≤ i := by omega
    rcases h3 with rfl | rfl | h3
    · rw [show l.length * 2 - l.length * 2 = 0 by omega]
      unfold pairVs
      rw [List.getElem?_map, List.getElem?_range (by rw [List.length_append, List.length_singleton]; omega)]
      simp
    · rw [show l.length * 2 + 1 - l.length * 2 = 1 by omega]
      unfold pairVs
      rw [List.getElem?_map, List.getElem?_range (by rw [List.length_append, List.length_singleton]; omega)]
      have e1 : (l.length * 2 + 1) % 2 = 1 := by omega
      have e2 : (l.length * 2 + 1) / 2 = l.length := by omega
      simp [e1, e2]
    · rw [List.getElem?_eq_none (by rw [pairVs_len]; simp; omega), List.getElem?_eq_none (by simp; omega)]
end Go.Proofs.YtppncdbhebgcaaaDoor
