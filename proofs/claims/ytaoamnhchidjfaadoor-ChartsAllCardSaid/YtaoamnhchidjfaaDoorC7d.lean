
/- Charts: the table of a chart: the walk of ask. -/
import Derived.Test.YtaoamnhchidjfaaDoorC7b
import Derived.Test.YtaoamnhchidjfaaDoorC7c
import Derived.Test.YtaoamnhchidjfaaDoorQ7n
namespace Go.Proofs.YtaoamnhchidjfaaDoor
open Go.RowKit

def mtC (C : Ch) (i : Nat) : Mt := C.meters.getD i ⟨[], [], 0⟩
def exC (C : Ch) (i : Nat) : Int := C.extra.getD i 0
/-- the numbers of a title -/
noncomputable def rowC (C : Ch) (i : Nat) : List Int := (sumsA (mtC C i) C.frm C.tto).map (· + exC C i)
noncomputable def tabTo (C : Ch) (k : Nat) : Tab := (List.range k).map (rowC C)
theorem tabTo_succ (C : Ch) (k : Nat) : tabTo C (k + 1) = tabTo C k ++ [rowC C k] := by
  unfold tabTo
  rw [List.range_succ, List.map_append]
  rfl
theorem tabTo_len (C : Ch) (k : Nat) : (tabTo C k).length = k := by unfold tabTo; simp
noncomputable def tabC (C : Ch) : Tab := tabTo C C.meters.length
noncomputable def someN (C : Ch) (k : Nat) : Bool := (List.range k).any fun i => bP (¬askV (mtC C i) true = 0)
theorem someN_succ (C : Ch) (k : Nat) : someN C (k + 1) = (someN C k || bP (¬askV (mtC C k) true = 0)) := by
  unfold someN
  rw [List.range_succ, List.any_append]
  simp
theorem someN_mono {C : Ch} {k n : Nat} (h : k < n) (ha : ¬askV (mtC C k) true = 0) : someN C n = true := by
  unfold someN
  rw [List.any_eq_true]
  exact ⟨k, List.mem_range.2 h, bP_t ha⟩
/-- the error of a chart that is asked for something -/
noncomputable def errC (C : Ch) (is : Bool) : Int := if okC C = true then (if is = true then (if someN C C.meters.length = true then 3 else 0) else 1) else 60
noncomputable def askT (C : Ch) (is : Bool) : Tab := if errC C is = 0 then tabC C else []
theorem errC_bad {C : Ch} (h : ¬ValidC C) (is : Bool) : errC C is = 60 := by unfold errC; rw [if_neg (fun e => h ((okC_iff C).1 e))]
theorem errC_false {C : Ch} (h : ValidC C) : errC C false = 1 := by unfold errC; rw [if_pos ((okC_iff C).2 h), if_neg (by decide)]
theorem errC_none {C : Ch} (h : ValidC C) (hn : someN C C.meters.length = true) : errC C true = 3 := by unfold errC; rw [if_pos ((okC_iff C).2 h), if_pos rfl, if_pos hn]
theorem errC_ok {C : Ch} (h : ValidC C) (hn : someN C C.meters.length = false) : errC C true = 0 := by unfold errC; rw [if_pos ((okC_iff C).2 h), if_pos rfl, if_neg (by rw [hn]; decide)]
theorem askT_ne {C : Ch} {is : Bool} (h : ¬errC C is = 0) : askT C is = [] := by unfold askT; rw [if_neg h]
theorem askT_0 {C : Ch} {is : Bool} (h : errC C is = 0) : askT C is = tabC C := by unfold askT; rw [if_pos h]
theorem mtC_get {C : Ch} {i : Nat} (h : i < C.meters.length) : mtC C i = C.meters[i] := by
  unfold mtC
  rw [List.getD_eq_getElem?_getD, List.getElem?_eq_getElem h]
  rfl
theorem exC_get {C : Ch} {i : Nat} (h : i < C.extra.length) : exC C i = C.extra[i] := by
  unfold exC
  rw [List.getD_eq_getElem?_getD, List.getElem?_eq_getElem h]
  rfl
theorem ValidC.mtI {C : Ch} (h : ValidC C) {i : Nat} (hi : i < C.meters.length) : ValidM (mtC C i) ∧ areB C.frm C.tto (mtC C i).weeks.length = true := by
  rw [mtC_get hi]
  have := h.mt _ (List.getElem_mem hi)
  exact ⟨this.1, areB_iff.2 ⟨h.f0, h.ft, this.2⟩⟩
theorem ownsRow_set {w : World} {B g n c i : Nat} {l : List Int} {m : Int} (h : w.ownsRow B 3 1 (.slice (some ⟨g, 0, none⟩) n c) n (intVs l)) :
    (w.setCell ⟨g, i, none⟩ (.int .i64 m)).ownsRow B 3 1 (.slice (some ⟨g, 0, none⟩) n c) n (intVs (l.set i m)) := by
  have hl : (intVs (l.set i m)).length = (intVs l).length := by simp [intVs]
  refine ⟨hl.trans h.1, ?_⟩
  rcases h.2 with ⟨hv, h0⟩ | ⟨g', cap, cur, hv, hB, hg, hc, hm, hs, hx⟩
  · cases hv
  · cases hv
    refine Or.inr ⟨g, c, cur.setIfInBounds i (.int .i64 m), rfl, hB, heap_set hg rfl, hc, hm, by simpa using hs, ?_⟩
    rw [Array.toList_setIfInBounds, List.take_set, hx]
    simp [intVs, List.map_set]
theorem ownsRow_cell {w : World} {B g n c i : Nat} {l : List Int} (h : w.ownsRow B 3 1 (.slice (some ⟨g, 0, none⟩) n c) n (intVs l)) (hi : i < l.length) :
    w.cell? ⟨g, i, none⟩ = some (.int .i64 l[i]) ∧ w.frozen? ⟨g, i, none⟩ = false := by
  have hn : n = l.length := by have := h.1; rw [intVs_len] at this; omega
  obtain ⟨b, c', he, hc⟩ := ownsRow_at h i (by omega)
  cases he
  refine ⟨?_, ?_⟩
  · rw [hc]; simp [intVs, hi]
  · rcases h.2 with ⟨hv, h0⟩ | ⟨g', cap, cur, hv, hB, hg, hc, hm, hs, hx⟩
    · cases hv
    · cases hv; exact cell_frozen hg i
theorem ownsRow_ups {w w' : World} {B b : Nat} {e : TypeId} {size : Nat} {v : Value} {n : Nat} {xs : List Value} (h : w.ownsRow B e size v n xs) (hU : Ups b w w') (hb : v.ownBlock ≠ some b) : w'.ownsRow B e size v n xs := by
  refine ⟨h.1, ?_⟩
  rcases h.2 with h0 | ⟨g, cap, cur, hv, hB, hg, hr⟩
  · exact Or.inl h0
  · refine Or.inr ⟨g, cap, cur, hv, hB, (hU.block g (Array.getElem?_eq_some_iff.1 hg).1 (fun e => hb (by rw [hv, e]; rfl))).trans hg, hr⟩
/-- the first numbers are greater by x -/
def addTo (l : List Int) (x : Int) (k : Nat) : List Int := (l.take k).map (· + x) ++ l.drop k
theorem addTo_zero (l : List Int) (x : Int) : addTo l x 0 = l := by simp [addTo]
theorem addTo_all (l : List Int) (x : Int) : addTo l x l.length = l.map (· + x) := by simp [addTo]
theorem addTo_len (l : List Int) (x : Int) (k : Nat) : (addTo l x k).length = l.length := by simp [addTo]; omega
theorem addTo_at (l : List Int) (x : Int) {k : Nat} (h : k < l.length) : (addTo l x k)[k]? = some l[k] := by
  unfold addTo
  have hk : ((l.take k).map (· + x)).length = k := by simp; omega
  rw [List.getElem?_append_right (by omega), hk, Nat.sub_self]
  simp [h]
theorem addTo_succ (l : List Int) (x : Int) {k : Nat} (h : k < l.length) : addTo l x (k + 1) = (addTo l x k).set k (l[k] + x) := by
  refine List.ext_getElem? fun i => ?_
  rw [List.getElem?_set]
  unfold addTo
  by_cases e : k = i
  · subst e
    rw [if_pos rfl, if_pos (by simp; omega), List.getElem?_append_left (by simp; omega)]
    simp [h]
  · rw [if_neg e]
    by_cases c : i < k
    · rw [List.getElem?_append_left (by simp; omega), List.getElem?_append_left (by simp; omega)]
      simp only [List.getElem?_map, List.getElem?_take]
      rw [if_pos (by omega), if_pos (by omega)]
    · rw [List.getElem?_append_right (by simp; omega), List.getElem?_append_right (by simp; omega)]
      simp only [List.length_map, List.length_take, List.getElem?_drop]
      congr 1
      omega
/-- slices that are no longer than they can be -/
def CapOK (vs : List Value) : Prop := ∀ v ∈ vs, ∃ p n c, v = .slice p n c ∧ n ≤ c
theorem CapOK.nil : CapOK [] := fun v h => by cases h
theorem CapOK.snoc {vs : List Value} {p : Option Addr} {n c : Nat} (h : CapOK vs) (hc : n ≤ c) : CapOK (vs ++ [.slice p n c]) := by
  intro v hv
  rcases List.mem_append.1 hv with h1 | h1
  · exact h v h1
  · exact ⟨p, n, c, List.mem_singleton.1 h1, hc⟩
theorem own_cap {w : World} {B g n c : Nat} {e : TypeId} {size : Nat} {xs : List Value} (h : w.ownsRow B e size (.slice (some ⟨g, 0, none⟩) n c) n xs) : n ≤ c := by
  rcases h.2 with ⟨hv, -⟩ | ⟨g', cap, cur, hv, -, -, hc, -⟩
  · cases hv
  · cases hv; exact hc
/-- a table that a call has laid, and an error -/
def RetTb (T : Tab) (n : Int) (w : World) (e : Ending) (w' : World) : Prop := ∃ v vs, e = .returned (.tuple #[v, .int .i64 n]) ∧ RwV w' w.heap.size v vs T none ∧ Ext w w' ∧ CapOK vs

set_option maxRecDepth 20000 in
set_option maxHeartbeats 16000000 in
theorem ask06 (C : Ch) (is : Bool) (v : Value) (w : World) (hv : ChV w v C) (hs : ChSm C) (hT : TabW w) :
    Calls Tryd.prog 27 #[v, .bool is] w (RetTb (askT C is) (errC C is) w) := by
  have HV := Lib.hid hv
  have HS := Lib.hid hs
  have HT := Lib.hid hT
  obtain ⟨p, c, q, d, rfl, hp, hq⟩ := hv
  have HP := Lib.hid hp
  have HQ := Lib.hid hq
  clear hp hq hT hs
  go_enter Tryd.func27, Tryd.ntmps27
  go_upto_region 1 with (fail)
  obtain ⟨s0, hs0⟩ : ∃ s0, s0 = w.heap.size := ⟨_, rfl⟩
  obtain ⟨W, hW⟩ : ∃ W, W = w.alloc (.cells #[.slice p C.meters.length c, .slice q C.extra.length d, .int .i64 C.frm, .int .i64 C.tto] 25) := ⟨_, rfl⟩
  have m0 : W.heap[s0]? = some (.cells #[.slice p C.meters.length c, .slice q C.extra.length d, .int .i64 C.frm, .int .i64 C.tto] 25) := by rw [hs0, hW]; exact heap_new _ _
  have hE : Ext w W := by rw [hW]; exact (by repeat (first | exact Ext.refl _ | assumption | refine Ext.drewN ?_ _ | refine Ext.drew ?_ | refine Ext.alloc ?_ _))
  rw [← hs0, ← hW]
  have m00 : W.cell? ⟨s0, 0, none⟩ = some (.slice p C.meters.length c) := cell_of_heap m0 0
  have m01 : W.cell? ⟨s0, 1, none⟩ = some (.slice q C.extra.length d) := cell_of_heap m0 1
  have m02 : W.cell? ⟨s0, 2, none⟩ = some (.int .i64 C.frm) := cell_of_heap m0 2
  have m03 : W.cell? ⟨s0, 3, none⟩ = some (.int .i64 C.tto) := cell_of_heap m0 3
  have HCE := Lib.hid (fun y (h : Ext W y) => (⟨h.cell m00, h.cell m01, h.cell m02, h.cell m03, hE.trans h⟩ :
    y.cell? ⟨s0, 0, none⟩ = some (.slice p C.meters.length c) ∧ y.cell? ⟨s0, 1, none⟩ = some (.slice q C.extra.length d) ∧ y.cell? ⟨s0, 2, none⟩ = some (.int .i64 C.frm) ∧ y.cell? ⟨s0, 3, none⟩ = some (.int .i64 C.tto) ∧ Ext w y))
  have HCK := Lib.hid (Check06 C _ W (HV.out.ext hE) HS.out)
  have HE := Lib.hid hE
  clear hW m0 hE hs0
  by_cases hC : ValidC C
  case neg =>
    rw [chkC_f hC] at HCK
    have HER := Lib.hid (errC_bad hC is)
    clear hC
    go_wp2_with (go_at_call 47; refine HCK.out.mono ?_; rintro e w2 ⟨rfl, hE2⟩)
    go_ret2
    exact ⟨_, [], by rw [HER.out]; rfl, by rw [askT_ne (by rw [HER.out]; decide)]; exact RwV.nil _ _ _, HE.out.trans hE2, CapOK.nil⟩
  rw [chkC_t hC] at HCK
  cases is
  case false =>
    have HER := Lib.hid (errC_false hC)
    clear hC
    go_wp2_with (go_at_call 47; refine HCK.out.mono ?_; rintro e w2 ⟨rfl, hE2⟩)
    go_ret2
    exact ⟨_, [], by rw [HER.out]; rfl, by rw [askT_ne (by rw [HER.out]; decide)]; exact RwV.nil _ _ _, HE.out.trans hE2, CapOK.nil⟩
  have HVC := Lib.hid hC
  have hn6 := hC.nm
  have hnx := hC.nx
  have hf0 := hC.f0
  have hft := hC.ft
  have ht5 := hC.t5
  rw [hnx] at m01 HCE HCK ⊢
  have HNX : EqS C.extra.length C.meters.length := ⟨hnx⟩
  obtain ⟨i1, hi1, hz1, hy1, hb1⟩ := info_parts info_b
  have HI1 := Lib.hid (⟨hi1, hz1, hy1, hb1⟩ : _ ∧ _ ∧ _ ∧ _)
  clear hnx hi1 hz1 hy1 hb1 hC
  go_upto_region 7 with (go_at_call 47; refine HCK.out.mono ?_; rintro e W2 ⟨rfl, hE2⟩; obtain ⟨k0, k1, k2, k3, k4⟩ := HCE.out _ hE2)
  have HE2 := Lib.hid hE2
  clear hE2 m00 m01 m02 m03 k1 k2 k3 k4 HCK
  go_wp2
  go_loopw [7, 23] (fun u i wr => ∃ (k : Nat) (vs : List Value), k ≤ C.meters.length ∧ i = .int .i64 k ∧ Ext W2 wr ∧ RwV wr W2.heap.size u vs (tabTo C k) none ∧ someN C k = false ∧ CapOK vs) (fun _ i _ => C.meters.length - (intOf i).toNat)
  case atStart => exact ⟨0, [], Nat.zero_le _, rfl, Ext.refl _, RwV.nil _ _ _, rfl, CapOK.nil⟩
  case round =>
    obtain ⟨k, vs, hk, rfl, hE, hR, hso, hcp⟩ := hrel
    obtain ⟨wo, rfl⟩ : ∃ wo, wo = wr := ⟨_, rfl⟩
    obtain ⟨k0, k1, k2, k3, k4⟩ := HCE.out wo (HE2.out.trans hE)
    have HEW := Lib.hid hE
    have HR := Lib.hid hR
    have HSO := Lib.hid hso
    have HCP := Lib.hid hcp
    clear hE hR hso hcp
    by_cases hlt : k < C.meters.length
    · have hlt' : (k : Int) < (C.meters.length : Int) := by omega
      obtain ⟨rb, ro, p1, d1, p2, d2, hqq, r0, r1, r2, r3, r4⟩ := HP.out.ext k4 k hlt
      subst hqq
      obtain ⟨xb, xo, hxx, x0⟩ := (HQ.out.ext k4).at k (by have := HNX.out; omega)
      subst hxx
      have hsm := HS.out.mt _ (List.getElem_mem hlt)
      have hex := HVC.out.ex _ (List.getElem_mem (show k < C.extra.length by have := HNX.out; omega))
      obtain ⟨hM, har⟩ := HVC.out.mtI hlt
      rw [← mtC_get hlt] at r0 r1 r2 r3 r4 hsm
      rw [← exC_get (show k < C.extra.length by have := HNX.out; omega)] at x0 hex
      have hrow : rowC C k = (sumsA (mtC C k) C.frm C.tto).map (· + exC C k) := rfl
      have hsn := someN_succ C k
      have hlate := fun ha => someN_mono (C := C) hlt ha
      have hak := ask_known hM
      have hbd := fun hz => fun x (hx : x ∈ sumsA (mtC C k) C.frm C.tto) => sumsA_bound hM har hz hx
      have hnem := fun hz => sumsA_ne hM har hz
      have hsl := sumsA_len (mtC C k) C.frm C.tto
      obtain ⟨M, hMe⟩ : ∃ M, M = mtC C k := ⟨_, rfl⟩
      rw [← hMe] at r0 r1 r2 r3 r4 hsm hM har hrow hsn hlate hak hbd hnem hsl
      obtain ⟨x, hx⟩ : ∃ x, x = exC C k := ⟨_, rfl⟩
      rw [← hx] at x0 hex hrow
      have HSU := Lib.hid (fun y (h : Ext wo y) => (by
        have h := Sums04 M C.frm C.tto (.agg #[.slice p1 M.weeks.length d1, .slice p2 M.reads.length d2, .int .i64 M.wrong]) y ⟨p1, d1, p2, d2, rfl, r3.ext h, r4.ext h⟩ (by omega) (by omega) (HT.out.ext (k4.trans h))
        rw [har] at h
        exact h : Calls Tryd.prog 48 #[.agg #[.slice p1 M.weeks.length d1, .slice p2 M.reads.length d2, .int .i64 M.wrong], .int .i64 C.frm, .int .i64 C.tto] y (RetL (okL (askV M true) (bitsI (betTo M C.frm.toNat C.tto.toNat 100))) (askV M true) y)))
      have hLA : okL (askV M true) (bitsI (betTo M C.frm.toNat C.tto.toNat 100)) = sumsA M C.frm C.tto := by unfold sumsA; rw [har]
      rw [hLA] at HSU
      obtain ⟨l, hl⟩ : ∃ l, l = sumsA M C.frm C.tto := ⟨_, rfl⟩
      rw [← hl] at HSU hrow hbd hnem hsl
      obtain ⟨z, hz⟩ : ∃ z, z = askV M true := ⟨_, rfl⟩
      rw [← hz] at HSU hsn hlate hak hbd hnem
      have HRO := Lib.hid hrow
      have HSN := Lib.hid hsn
      have HEA := Lib.hid (⟨hak, hlate⟩ : (z = 0 ∨ z = 3) ∧ (¬z = 0 → someN C C.meters.length = true))
      have HRD := Lib.hid (fun y (h : Ext wo y) => (⟨h.cell r0, h.cell r1, h.cell r2⟩ : y.cell? ⟨rb, ro + k * 3, none⟩ = some (.slice p1 M.weeks.length d1) ∧ y.cell? ⟨rb, ro + k * 3 + 1, none⟩ = some (.slice p2 M.reads.length d2) ∧ y.cell? ⟨rb, ro + k * 3 + 2, none⟩ = some (.int .i64 M.wrong)))
      have X0 := Lib.hid x0
      clear hMe hx hl hz hM har r3 r4 hsm hrow hsn hlate hLA x0
      go_upto_region 10 with (fail)
      obtain ⟨rc, hrc⟩ : ∃ rc, rc = wo.heap.size := ⟨_, rfl⟩
      obtain ⟨W5, hW5⟩ : ∃ W5, W5 = wo.alloc (.cells #[.slice p1 M.weeks.length d1, .slice p2 M.reads.length d2, .int .i64 M.wrong] 61) := ⟨_, rfl⟩
      have hE5 : Ext wo W5 := by rw [hW5]; exact Ext.alloc (Ext.refl _) _
      have hs5 : W5.heap[rc]? = some (.cells #[.slice p1 M.weeks.length d1, .slice p2 M.reads.length d2, .int .i64 M.wrong] 61) := by rw [hW5, hrc]; exact heap_new _ _
      rw [← hrc, ← hW5]
      have c0 : W5.cell? ⟨rc, 0, none⟩ = some (.slice p1 M.weeks.length d1) := cell_of_heap hs5 0
      have c1 : W5.cell? ⟨rc, 1, none⟩ = some (.slice p2 M.reads.length d2) := cell_of_heap hs5 1
      have c2 : W5.cell? ⟨rc, 2, none⟩ = some (.int .i64 M.wrong) := cell_of_heap hs5 2
      obtain ⟨k0, k1, k2, k3, k4⟩ := HCE.out W5 (HE2.out.trans (HEW.out.trans hE5))
      have HE5 := Lib.hid hE5
      have HSU := Lib.hid (HSU.out W5 hE5)
      clear hW5 hs5 hE5 hrc r0 r1 r2 k4
      by_cases hz0 : z = 0
      case neg =>
        have hz3 : z = 3 := HEA.out.1.resolve_left hz0
        have HER := Lib.hid (errC_none HVC.out (HEA.out.2 hz0))
        subst hz3
        clear hz0
        go_wp2_with (go_at_call 48; refine HSU.out.mono ?_; rintro e w6 ⟨u6, rfl, hO6, hE6⟩)
        go_ret2
        exact ⟨_, [], by rw [HER.out]; rfl, by rw [askT_ne (by rw [HER.out]; decide)]; exact RwV.nil _ _ _, HE.out.trans (HE2.out.trans (HEW.out.trans (HE5.out.trans hE6))), CapOK.nil⟩
      subst hz0
      have hbd := hbd rfl
      have hl0 : 0 < l.length := List.length_pos_iff.2 (hnem rfl)
      have HSN1 := Lib.hid (show someN C (k + 1) = false from by rw [HSN.out, HSO.out, bP_f (fun h => h rfl)]; rfl)
      have HBD := Lib.hid hbd
      clear hak hbd hnem HSN HEA
      go_upto_region 13 with (go_at_call 48; refine HSU.out.mono ?_; rintro e W6 ⟨u6, rfl, hO6, hE6⟩)
      obtain ⟨g, cg, rfl, -⟩ := ownsRow_at hO6 0 hl0
      have hE16 := HE5.out.trans hE6
      have hgB : wo.heap.size ≤ g := Nat.le_trans HE5.out.size (hO6.lt g rfl).1
      have HO6 := Lib.hid (ownsRow_base hO6 HE5.out.size)
      have HGB := Lib.hid hgB
      have HE16 := Lib.hid hE16
      have HCG := Lib.hid (fun y (h : Ext wo y) => (⟨(HCE.out y (HE2.out.trans (HEW.out.trans h))).2.1, h.cell X0.out⟩ : y.cell? ⟨s0, 1, none⟩ = some (.slice (some ⟨xb, xo, none⟩) C.meters.length d) ∧ y.cell? ⟨xb, xo + k, none⟩ = some (.int .i64 x)))
      clear hO6 hE6 hE16 hgB k0 k1 k2 k3 c0 c1 c2 HSU
      go_wp2
      go_loopw [42] (fun i w2 => ∃ j : Nat, j ≤ l.length ∧ i = .int .i64 j ∧ Ups g W6 w2 ∧ w2.ownsRow wo.heap.size 3 1 (.slice (some ⟨g, 0, none⟩) l.length cg) l.length (intVs (addTo l x j))) (fun i _ => l.length - (intOf i).toNat)
      case atStart => exact ⟨0, Nat.zero_le _, rfl, Ups.refl _ _, by rw [addTo_zero]; exact HO6.out⟩
      case round =>
        obtain ⟨j, hj, rfl, hU, hO⟩ := hrel
        have hEY : Ext wo wr := HE16.out.ups hU HGB.out
        have HUY := Lib.hid hU
        have HOY := Lib.hid hO
        have HEY := Lib.hid hEY
        by_cases hjl : j < l.length
        · have hjl' : (j : Int) < (l.length : Int) := by omega
          obtain ⟨hc, hfz⟩ := ownsRow_cell hO (i := j) (by rw [addTo_len]; exact hjl)
          have hva : (addTo l x j)[j]'(by rw [addTo_len]; exact hjl) = l[j] := by
            have := addTo_at l x hjl
            rw [List.getElem?_eq_getElem (by rw [addTo_len]; exact hjl)] at this
            exact Option.some.inj this
          rw [hva] at hc
          have hab := HBD.out l[j] (List.getElem_mem hjl)
          have hsu := addTo_succ l x hjl
          obtain ⟨a, ha⟩ : ∃ a, a = l[j] := ⟨_, rfl⟩
          rw [← ha] at hc hab hsu
          have hw : IntKind.i64.wrap (a + x) = a + x := IntWalk.i64_in _ (by omega)
          have HSU := Lib.hid hsu
          have HKC := Lib.hid (fun y (h : Ext wr y) => (⟨h.cell hc, (HCG.out y (hEY.trans h)).1, (HCG.out y (hEY.trans h)).2⟩ :
            y.cell? ⟨g, j, none⟩ = some (.int .i64 a) ∧ y.cell? ⟨s0, 1, none⟩ = some (.slice (some ⟨xb, xo, none⟩) C.meters.length d) ∧ y.cell? ⟨xb, xo + k, none⟩ = some (.int .i64 x)))
          clear hva ha hsu hc hfz hU hO hEY
          go_upto_region 16 with (fail)
          refine wp_region_facts 10 [[], [], [0, 1], [2], [], [4], [], [5, 6], [7], [3, 8]] [0, 1, 9] Ext (FL [Is (.slice (some ⟨g, 0, none⟩) l.length cg), Is (.int .i64 (j : Int)), Is (.pointer (some ⟨g, j, none⟩)), Is (.int .i64 a), Is (.pointer (some ⟨s0, 1, none⟩)), Is (.slice (some ⟨xb, xo, none⟩) C.meters.length d), Is (.int .i64 (k : Int)), Is (.pointer (some ⟨xb, xo + k, none⟩)), Is (.int .i64 x), Is (.int .i64 (a + x))]) (by kernel_rfl) (by kernel_rfl) Ext.refl (fun _ _ _ => Ext.trans) (fun _ _ => Ext.size) (FL.mono ⟨Is.mono, Is.mono, Is.mono, Is.mono, Is.mono, Is.mono, Is.mono, Is.mono, Is.mono, Is.mono, trivial⟩) ⟨?_, ?_, ?_, ?_, ?_, ?_, ?_, ?_, ?_, ?_, trivial⟩ ?_
          · refine opF_step ?_
            intro ys l0 h0 w' hr hf K hK
            clear hf
            simp only [fill, Act.put, dstO, List.take_succ_cons, List.take_zero, List.setIfInBounds_toArray, List.set_cons_zero, List.set_cons_succ, List.getElem?_cons_zero, Nat.zero_add, Nat.reduceAdd] at hK ⊢
            refine OpB.mk' ?_
            go_simp
            exact hK.out _ _ rfl (Ext.refl _)
          · refine opF_step ?_
            intro ys l0 h0 w' hr hf K hK
            clear hf
            simp only [fill, Act.put, dstO, List.take_succ_cons, List.take_zero, List.setIfInBounds_toArray, List.set_cons_zero, List.set_cons_succ, List.getElem?_cons_zero, List.getElem?_cons_succ, Nat.zero_add, Nat.reduceAdd] at hK ⊢
            refine OpB.mk' ?_
            go_simp
            exact hK.out _ _ rfl (Ext.refl _)
          · refine opF_step ?_
            intro ys l0 h0 w' hr hf K hK
            obtain ⟨f0, f1, -⟩ := hf
            have e0 : ys 0 = _ := f0
            have e1 : ys 1 = _ := f1
            simp only [fill, Act.put, dstO, List.take_succ_cons, List.take_zero, List.setIfInBounds_toArray, List.set_cons_zero, List.set_cons_succ, List.getElem?_cons_zero, List.getElem?_cons_succ, Nat.zero_add, Nat.reduceAdd] at hK ⊢
            simp only [e0, e1] at hK ⊢
            clear e0 e1 f0 f1
            refine OpB.mk' ?_
            go_simp
            exact hK.out _ _ rfl (Ext.refl _)
          · refine opF_step ?_
            intro ys l0 h0 w' hr hf K hK
            obtain ⟨f0, -⟩ := hf
            have e0 : ys 2 = _ := f0
            obtain ⟨j0, j1, j2⟩ := HKC.out w' ((Ext.refl wr).drew.trans hr)
            simp only [fill, Act.put, dstO, List.take_succ_cons, List.take_zero, List.setIfInBounds_toArray, List.set_cons_zero, List.set_cons_succ, List.getElem?_cons_zero, List.getElem?_cons_succ, Nat.zero_add, Nat.reduceAdd] at hK ⊢
            simp only [e0] at hK ⊢
            clear e0 f0
            refine OpB.mk' ?_
            go_simp
            exact hK.out _ _ rfl (Ext.refl _)
          · refine opF_step ?_
            intro ys l0 h0 w' hr hf K hK
            clear hf
            simp only [fill, Act.put, dstO, List.take_succ_cons, List.take_zero, List.setIfInBounds_toArray, List.set_cons_zero, List.set_cons_succ, List.getElem?_cons_zero, List.getElem?_cons_succ, Nat.zero_add, Nat.reduceAdd] at hK ⊢
            refine OpB.mk' ?_
            go_simp
            exact hK.out _ _ rfl (Ext.refl _)
          · refine opF_step ?_
            intro ys l0 h0 w' hr hf K hK
            obtain ⟨f0, -⟩ := hf
            have e0 : ys 4 = _ := f0
            obtain ⟨j0, j1, j2⟩ := HKC.out w' ((Ext.refl wr).drew.trans hr)
            simp only [fill, Act.put, dstO, List.take_succ_cons, List.take_zero, List.setIfInBounds_toArray, List.set_cons_zero, List.set_cons_succ, List.getElem?_cons_zero, List.getElem?_cons_succ, Nat.zero_add, Nat.reduceAdd] at hK ⊢
            simp only [e0] at hK ⊢
            clear e0 f0
            refine OpB.mk' ?_
            go_simp
            exact hK.out _ _ rfl (Ext.refl _)
          · refine opF_step ?_
            intro ys l0 h0 w' hr hf K hK
            clear hf
            simp only [fill, Act.put, dstO, List.take_succ_cons, List.take_zero, List.setIfInBounds_toArray, List.set_cons_zero, List.set_cons_succ, List.getElem?_cons_zero, List.getElem?_cons_succ, Nat.zero_add, Nat.reduceAdd] at hK ⊢
            refine OpB.mk' ?_
            go_simp
            exact hK.out _ _ rfl (Ext.refl _)
          · refine opF_step ?_
            intro ys l0 h0 w' hr hf K hK
            obtain ⟨f0, f1, -⟩ := hf
            have e0 : ys 5 = _ := f0
            have e1 : ys 6 = _ := f1
            simp only [fill, Act.put, dstO, List.take_succ_cons, List.take_zero, List.setIfInBounds_toArray, List.set_cons_zero, List.set_cons_succ, List.getElem?_cons_zero, List.getElem?_cons_succ, Nat.zero_add, Nat.reduceAdd] at hK ⊢
            simp only [e0, e1] at hK ⊢
            clear e0 e1 f0 f1
            refine OpB.mk' ?_
            go_simp
            exact hK.out _ _ rfl (Ext.refl _)
          · refine opF_step ?_
            intro ys l0 h0 w' hr hf K hK
            obtain ⟨f0, -⟩ := hf
            have e0 : ys 7 = _ := f0
            obtain ⟨j0, j1, j2⟩ := HKC.out w' ((Ext.refl wr).drew.trans hr)
            simp only [fill, Act.put, dstO, List.take_succ_cons, List.take_zero, List.setIfInBounds_toArray, List.set_cons_zero, List.set_cons_succ, List.getElem?_cons_zero, List.getElem?_cons_succ, Nat.zero_add, Nat.reduceAdd] at hK ⊢
            simp only [e0] at hK ⊢
            clear e0 f0
            refine OpB.mk' ?_
            go_simp
            exact hK.out _ _ rfl (Ext.refl _)
          · refine opF_step ?_
            intro ys l0 h0 w' hr hf K hK
            obtain ⟨f0, f1, -⟩ := hf
            have e0 : ys 3 = _ := f0
            have e1 : ys 8 = _ := f1
            simp only [fill, Act.put, dstO, List.take_succ_cons, List.take_zero, List.setIfInBounds_toArray, List.set_cons_zero, List.set_cons_succ, List.getElem?_cons_zero, List.getElem?_cons_succ, Nat.zero_add, Nat.reduceAdd] at hK ⊢
            simp only [e0, e1] at hK ⊢
            clear e0 e1 f0 f1
            refine OpB.mk' ?_
            go_simp
            exact hK.out _ _ rfl (Ext.refl _)
          intro ys l0 h0 w2 hr hf hsp
          obtain ⟨f0, f1, f9, -⟩ := hf
          have e0 : ys 0 = _ := f0
          have e1 : ys 1 = _ := f1
          have e9 : ys 9 = _ := f9
          simp only [fill, Act.put, List.take_succ_cons, List.take_zero, List.setIfInBounds_toArray, List.set_cons_zero, List.set_cons_succ, Nat.zero_add, Nat.reduceAdd, List.drop_succ_cons, List.drop_zero]
          rw [e0, e1, e9]
          clear e0 f0 e1 f1 e9 f9 hsp
          have hEW2 : Ext wr w2 := (Ext.refl wr).drew.trans hr
          have hO2 := ownsRow_ext HOY.out hEW2
          obtain ⟨hc2, hf2⟩ := ownsRow_cell hO2 (i := j) (by rw [addTo_len]; exact hjl)
          have HO2 := Lib.hid hO2
          have HU2 := Lib.hid (HUY.out.trans (Ups.ext hEW2))
          clear hO2 hEW2 hr
          go_wp2
          go_roundw
          case rel => exact ⟨j + 1, by omega, by simp, HU2.out.setCell _ _, by rw [HSU.out]; exact ownsRow_set HO2.out⟩
          case measure => simp [intOf]; omega
        · obtain rfl : j = l.length := by omega
          have hge : ¬(l.length : Int) < (l.length : Int) := by omega
          rw [addTo_all, ← HRO.out] at hO
          have hln : l.length = (rowC C k).length := by rw [HRO.out]; simp
          have hlv : vs.length = k := by have := HR.out.len; rw [tabTo_len] at this; exact this
          have hni := fun r (hr : ∀ b, r = some b → b < wo.heap.size) => own_ne_ints hln hO r hr
          have HNI := Lib.hid (fun r (hr : ∀ b, r = some b → b < wo.heap.size) => (by
            obtain ⟨q', c', he, hn⟩ := own_ne_ints hln hO r hr
            cases he
            exact hn : IntsNe r wr (some ⟨g, 0, none⟩) (rowC C k)))
          have HLN : EqS l.length (rowC C k).length := ⟨hln⟩
          have HLV : EqS vs.length k := ⟨hlv⟩
          clear hln hlv hni hU hO hEY
          have hsz := HEY.out.size
          have hszw := HEW.out.size
          go_wp2_with (at_builtin; refine wpList_append_lies _ rfl (.tmp 57) (.tmp 59) 52 rfl W2.heap.size 23 i1 (.slice none 0 0) 1 24 Tryd.underlying52 HI1.out.1 HI1.out.2.1 HI1.out.2.2.1 HI1.out.2.2.2 rfl (by decide) _ vs.length vs rfl (ownsRow_ext HR.out.out (HEY.out.alloc _)) ⟨wr.heap.size, 0, none⟩ 1 1 [.slice (some ⟨g, 0, none⟩) l.length cg] rfl rfl (hnewsE (Ext.refl _) rfl) (fun u hu => by rw [List.mem_singleton.1 hu]; rfl) (by decide) ?c3 ?c4 ?c5 (wr.heap.size + 1) (size_alloc _ _) ?_)
          case c3 => have := HLV.out; unfold maxLen; omega
          case c4 => have := HLV.out; omega
          case c5 => first | omega | (rw [size_alloc]; omega)
          intro g4 cap4 w4 hown4 hgr4 hat4 hlt4
          have hE4 : Ext W2 w4 := Below.grown (HEW.out.trans (HEY.out.alloc _)) hgr4 (HEW.out.trans (HEY.out.alloc _)).size (fun i hi => (HR.out.out.lt i hi).1)
          have hstep := HR.out.step (r := none) (xs := [.slice (some ⟨g, 0, none⟩) l.length cg]) (Ms := [rowC C k]) (HEY.out.alloc _) rfl (fun i hi => by
            obtain rfl : i = 0 := by simpa using hi
            exact ⟨_, cg, by rw [HLN.out]; rfl, (HNI.out _ (fun b hb => (HR.out.out.lt b hb).2)).ext (Ext.alloc (Ext.refl _) _)⟩) (fun i hi => by
            obtain rfl : i = 0 := by simpa using hi
            exact ⟨_, cg, by rw [HLN.out]; rfl, (HNI.out _ (fun b hb => by cases hb)).ext (Ext.alloc (Ext.refl _) _)⟩) hown4 hgr4 (by rw [size_alloc]; exact hat4)
          rw [← tabTo_succ] at hstep
          have HE4 := Lib.hid hE4
          have HST := Lib.hid hstep
          clear hown4 hgr4 hat4 hlt4 hE4 hstep
          go_wp2
          go_roundw
          case rel => exact ⟨k + 1, _, by omega, by simp, HE4.out, HST.out, HSN1.out, HCP.out.snoc (own_cap HO6.out)⟩
          case measure => simp [intOf]; omega
    · obtain rfl : k = C.meters.length := by omega
      have hlt' : ¬(C.meters.length : Int) < (C.meters.length : Int) := by omega
      have HER := Lib.hid (errC_ok HVC.out HSO.out)
      go_wp2
      go_ret2
      exact ⟨_, vs, by rw [HER.out]; rfl, by rw [askT_0 HER.out]; exact HR.out.base (HE.out.trans HE2.out).size, HE.out.trans (HE2.out.trans HEW.out), HCP.out⟩
end Go.Proofs.YtaoamnhchidjfaaDoor
