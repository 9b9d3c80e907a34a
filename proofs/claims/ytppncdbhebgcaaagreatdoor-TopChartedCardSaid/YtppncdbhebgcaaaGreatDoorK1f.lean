
/- Charts: ask and Numbers, whose rows lie in new memory. -/
import Derived.Test.YtppncdbhebgcaaaGreatDoorCB
namespace Go.Proofs.YtppncdbhebgcaaaGreatDoor
open Go.RowKit

def CapF (B : Nat) (vs : List Value) : Prop := ∀ v ∈ vs, ∃ p n c, v = .slice p n c ∧ n ≤ c ∧ ∀ a, p = some a → B ≤ a.block
theorem CapF.nil (B : Nat) : CapF B [] := fun v h => by cases h
theorem CapF.base {B B' : Nat} {vs : List Value} (h : CapF B vs) (hB : B' ≤ B) : CapF B' vs := fun v hv => by
  obtain ⟨p, n, c, h1, h2, h3⟩ := h v hv
  exact ⟨p, n, c, h1, h2, fun a ha => Nat.le_trans hB (h3 a ha)⟩
theorem CapF.snoc {B : Nat} {vs : List Value} {p : Option Addr} {n c : Nat} (h : CapF B vs) (hc : n ≤ c) (hp : ∀ a, p = some a → B ≤ a.block) : CapF B (vs ++ [.slice p n c]) := by
  intro v hv
  rcases List.mem_append.1 hv with h1 | h1
  · exact h v h1
  · exact ⟨p, n, c, List.mem_singleton.1 h1, hc, hp⟩
def RetTbF (T : Tab) (n : Int) (w : World) (e : Ending) (w' : World) : Prop := ∃ v vs, e = .returned (.tuple #[v, .int .i64 n]) ∧ RwV w' w.heap.size v vs T none ∧ Ext w w' ∧ CapF w.heap.size vs
def TabFF (T : Tab) (z : Int) (B : Nat) (v : Value) (_ _ : Nat) (w : World) : Prop := ∃ u vs, v = .tuple #[u, .int .i64 z] ∧ RwV w B u vs T none ∧ CapF B vs
theorem TabFF.mono {T : Tab} {z : Int} {B : Nat} : ∀ v s t w w', Ext w w' → TabFF T z B v s t w → TabFF T z B v s t w' := fun _ _ _ _ _ hE ⟨u, vs, h1, h2, h3⟩ => ⟨u, vs, h1, h2.ext hE, h3⟩
def RowFF (T : Tab) (B : Nat) (v : Value) (_ _ : Nat) (w : World) : Prop := ∃ vs, RwV w B v vs T none ∧ CapF B vs
theorem RowFF.mono {T : Tab} {B : Nat} : ∀ v s t w w', Ext w w' → RowFF T B v s t w → RowFF T B v s t w' := fun _ _ _ _ _ hE ⟨vs, h2, h3⟩ => ⟨vs, h2.ext hE, h3⟩
def RetNF (l : List Int) (n : Int) (w : World) (e : Ending) (w' : World) : Prop := ∃ p c, e = .returned (.tuple #[.slice p l.length c, .int .i64 n]) ∧ IntsAt w' p l ∧ Ext w w' ∧ ∀ a, p = some a → w.heap.size ≤ a.block
theorem rowF {w : World} {B n ct i : Nat} {qt : Option Addr} {vs : List Value} {T : Tab} (h : RwV w B (.slice qt n ct) vs T none) (hc : CapF B vs) (hi : i < T.length) :
    ∃ bb oo qq cc, qt = some ⟨bb, oo, none⟩ ∧ w.cell? ⟨bb, oo + i, none⟩ = some (.slice qq (rowT T i).length cc) ∧ IntsAt w qq (rowT T i) ∧ ∀ a, qq = some a → B ≤ a.block := by
  have hiv : i < vs.length := by rw [h.len]; exact hi
  obtain ⟨b, cc, he, hcl⟩ := ownsRow_at h.out i hiv
  obtain ⟨p, c', h1, h2⟩ := h.row i hi
  injection he with he1 he2 he3
  rw [h1] at hcl
  have hm : (.slice p T[i].length c' : Value) ∈ vs := List.mem_of_getElem? h1
  obtain ⟨p2, n2, c2, e2, -, h3⟩ := hc _ hm
  cases e2
  rw [rowT_get hi]
  exact ⟨b, 0, p, c', he1, by rw [Nat.zero_add]; exact hcl, h2.ints, h3⟩

set_option maxRecDepth 20000 in
set_option maxHeartbeats 16000000 in
theorem ask06F (C : Ch) (is : Bool) (v : Value) (w : World) (hv : ChV w v C) (hs : ChSm C) (hT : TabW w) :
    Calls Tryz.prog 31 #[v, .bool is] w (RetTbF (askT C is) (errC C is) w) := by
  have HV := Lib.hid hv
  have HS := Lib.hid hs
  have HT := Lib.hid hT
  obtain ⟨p, c, q, d, rfl, hp, hq⟩ := hv
  have HP := Lib.hid hp
  have HQ := Lib.hid hq
  clear hp hq hT hs
  go_enter Tryz.func31, Tryz.ntmps31
  go_upto_region 1 with (fail)
  obtain ⟨s0, hs0⟩ : ∃ s0, s0 = w.heap.size := ⟨_, rfl⟩
  obtain ⟨W, hW⟩ : ∃ W, W = w.alloc (.cells #[.slice p C.meters.length c, .slice q C.extra.length d, .int .i64 C.frm, .int .i64 C.tto] 25) := ⟨_, rfl⟩
  have m0 : W.heap[s0]? = some (.cells #[.slice p C.meters.length c, .slice q C.extra.length d, .int .i64 C.frm, .int .i64 C.tto] 25) := by rw [hs0, hW]; exact heap_new _ _
  have hE : Ext w W := by rw [hW]; exact (by repeat (first | exact Ext.refl _ | assumption | refine Ext.drewN ?_ _ | refine Ext.drew ?_ | refine Ext.alloc ?_ _))
  rw [← hs0, ← hW]
  have m00 : W.cell? ⟨s0, 0, none⟩ = some (.slice p C.meters.length c) := cell_of_heap m0 0
  have m01 : W.cell? ⟨s0, 1, none⟩ = some (.slice q C.extra.length d) := cell_of_heap m0 1
  have m02 : W.cell? ⟨s0, 2, none⟩ = some (.int .i64 C.frm) := cell_of_heap m0 2
  have m03 : W.cell? ⟨s0, 3, none⟩ = some (.int .i64 C.tto) := cell_of_heap m0 3
  have HCE := Lib.hid (fun y (h : Ext W y) => (⟨h.cell m00, h.cell m01, h.cell m02, h.cell m03, hE.trans h⟩ :
    y.cell? ⟨s0, 0, none⟩ = some (.slice p C.meters.length c) ∧ y.cell? ⟨s0, 1, none⟩ = some (.slice q C.extra.length d) ∧ y.cell? ⟨s0, 2, none⟩ = some (.int .i64 C.frm) ∧ y.cell? ⟨s0, 3, none⟩ = some (.int .i64 C.tto) ∧ Ext w y))
  have HCK := Lib.hid (Check06 C _ W (HV.out.ext hE) HS.out)
  have HE := Lib.hid hE
  clear hW m0 hE hs0
  by_cases hC : ValidC C
  case neg =>
    rw [chkC_f hC] at HCK
    have HER := Lib.hid (errC_bad hC is)
    clear hC
    go_wp2_with (go_at_call 60; refine HCK.out.mono ?_; rintro e w2 ⟨rfl, hE2⟩)
    go_ret2
    exact ⟨_, [], by rw [HER.out]; rfl, by rw [askT_ne (by rw [HER.out]; decide)]; exact RwV.nil _ _ _, HE.out.trans hE2, CapF.nil _⟩
  rw [chkC_t hC] at HCK
  cases is
  case false =>
    have HER := Lib.hid (errC_false hC)
    clear hC
    go_wp2_with (go_at_call 60; refine HCK.out.mono ?_; rintro e w2 ⟨rfl, hE2⟩)
    go_ret2
    exact ⟨_, [], by rw [HER.out]; rfl, by rw [askT_ne (by rw [HER.out]; decide)]; exact RwV.nil _ _ _, HE.out.trans hE2, CapF.nil _⟩
  have HVC := Lib.hid hC
  have hn6 := hC.nm
  have hnx := hC.nx
  have hf0 := hC.f0
  have hft := hC.ft
  have ht5 := hC.t5
  rw [hnx] at m01 HCE HCK ⊢
  have HNX : EqS C.extra.length C.meters.length := ⟨hnx⟩
  obtain ⟨i1, hi1, hz1, hy1, hb1⟩ := info_parts info_b
  have HI1 := Lib.hid (⟨hi1, hz1, hy1, hb1⟩ : _ ∧ _ ∧ _ ∧ _)
  clear hnx hi1 hz1 hy1 hb1 hC
  go_upto_region 7 with (go_at_call 60; refine HCK.out.mono ?_; rintro e W2 ⟨rfl, hE2⟩; obtain ⟨k0, k1, k2, k3, k4⟩ := HCE.out _ hE2)
  have HE2 := Lib.hid hE2
  clear hE2 m00 m01 m02 m03 k1 k2 k3 k4 HCK
  go_wp2
  go_loopw [7, 23] (fun u i wr => ∃ (k : Nat) (vs : List Value), k ≤ C.meters.length ∧ i = .int .i64 k ∧ Ext W2 wr ∧ RwV wr W2.heap.size u vs (tabTo C k) none ∧ someN C k = false ∧ CapF W2.heap.size vs) (fun _ i _ => C.meters.length - (intOf i).toNat)
  case atStart => exact ⟨0, [], Nat.zero_le _, rfl, Ext.refl _, RwV.nil _ _ _, rfl, CapF.nil _⟩
  case round =>
    obtain ⟨k, vs, hk, rfl, hE, hR, hso, hcp⟩ := hrel
    obtain ⟨wo, rfl⟩ : ∃ wo, wo = wr := ⟨_, rfl⟩
    obtain ⟨k0, k1, k2, k3, k4⟩ := HCE.out wo (HE2.out.trans hE)
    have HEW := Lib.hid hE
    have HR := Lib.hid hR
    have HSO := Lib.hid hso
    have HCP := Lib.hid hcp
    clear hE hR hso hcp
    by_cases hlt : k < C.meters.length
    · have hlt' : (k : Int) < (C.meters.length : Int) := by omega
      obtain ⟨rb, ro, p1, d1, p2, d2, hqq, r0, r1, r2, r3, r4⟩ := HP.out.ext k4 k hlt
      subst hqq
      obtain ⟨xb, xo, hxx, x0⟩ := (HQ.out.ext k4).at k (by have := HNX.out; omega)
      subst hxx
      have hsm := HS.out.mt _ (List.getElem_mem hlt)
      have hex := HVC.out.ex _ (List.getElem_mem (show k < C.extra.length by have := HNX.out; omega))
      obtain ⟨hM, har⟩ := HVC.out.mtI hlt
      rw [← mtC_get hlt] at r0 r1 r2 r3 r4 hsm
      rw [← exC_get (show k < C.extra.length by have := HNX.out; omega)] at x0 hex
      have hrow : rowC C k = (sumsA (mtC C k) C.frm C.tto).map (· + exC C k) := rfl
      have hsn := someN_succ C k
      have hlate := fun ha => someN_mono (C := C) hlt ha
      have hak := ask_known hM
      have hbd := fun hz => fun x (hx : x ∈ sumsA (mtC C k) C.frm C.tto) => sumsA_bound hM har hz hx
      have hnem := fun hz => sumsA_ne hM har hz
      have hsl := sumsA_len (mtC C k) C.frm C.tto
      obtain ⟨M, hMe⟩ : ∃ M, M = mtC C k := ⟨_, rfl⟩
      rw [← hMe] at r0 r1 r2 r3 r4 hsm hM har hrow hsn hlate hak hbd hnem hsl
      obtain ⟨x, hx⟩ : ∃ x, x = exC C k := ⟨_, rfl⟩
      rw [← hx] at x0 hex hrow
      have HSU := Lib.hid (fun y (h : Ext wo y) => (by
        have h := Sums04 M C.frm C.tto (.agg #[.slice p1 M.weeks.length d1, .slice p2 M.reads.length d2, .int .i64 M.wrong]) y ⟨p1, d1, p2, d2, rfl, r3.ext h, r4.ext h⟩ (by omega) (by omega) (HT.out.ext (k4.trans h))
        rw [har] at h
        exact h : Calls Tryz.prog 61 #[.agg #[.slice p1 M.weeks.length d1, .slice p2 M.reads.length d2, .int .i64 M.wrong], .int .i64 C.frm, .int .i64 C.tto] y (RetL (okL (askV M true) (bitsI (betTo M C.frm.toNat C.tto.toNat 100))) (askV M true) y)))
      have hLA : okL (askV M true) (bitsI (betTo M C.frm.toNat C.tto.toNat 100)) = sumsA M C.frm C.tto := by unfold sumsA; rw [har]
      rw [hLA] at HSU
      obtain ⟨l, hl⟩ : ∃ l, l = sumsA M C.frm C.tto := ⟨_, rfl⟩
      rw [← hl] at HSU hrow hbd hnem hsl
      obtain ⟨z, hz⟩ : ∃ z, z = askV M true := ⟨_, rfl⟩
      rw [← hz] at HSU hsn hlate hak hbd hnem
      have HRO := Lib.hid hrow
      have HSN := Lib.hid hsn
      have HEA := Lib.hid (⟨hak, hlate⟩ : (z = 0 ∨ z = 3) ∧ (¬z = 0 → someN C C.meters.length = true))
      have HRD := Lib.hid (fun y (h : Ext wo y) => (⟨h.cell r0, h.cell r1, h.cell r2⟩ : y.cell? ⟨rb, ro + k * 3, none⟩ = some (.slice p1 M.weeks.length d1) ∧ y.cell? ⟨rb, ro + k * 3 + 1, none⟩ = some (.slice p2 M.reads.length d2) ∧ y.cell? ⟨rb, ro + k * 3 + 2, none⟩ = some (.int .i64 M.wrong)))
      have X0 := Lib.hid x0
      clear hMe hx hl hz hM har r3 r4 hsm hrow hsn hlate hLA x0
      go_upto_region 10 with (fail)
      obtain ⟨rc, hrc⟩ : ∃ rc, rc = wo.heap.size := ⟨_, rfl⟩
      obtain ⟨W5, hW5⟩ : ∃ W5, W5 = wo.alloc (.cells #[.slice p1 M.weeks.length d1, .slice p2 M.reads.length d2, .int .i64 M.wrong] 55) := ⟨_, rfl⟩
      have hE5 : Ext wo W5 := by rw [hW5]; exact Ext.alloc (Ext.refl _) _
      have hs5 : W5.heap[rc]? = some (.cells #[.slice p1 M.weeks.length d1, .slice p2 M.reads.length d2, .int .i64 M.wrong] 55) := by rw [hW5, hrc]; exact heap_new _ _
      rw [← hrc, ← hW5]
      have c0 : W5.cell? ⟨rc, 0, none⟩ = some (.slice p1 M.weeks.length d1) := cell_of_heap hs5 0
      have c1 : W5.cell? ⟨rc, 1, none⟩ = some (.slice p2 M.reads.length d2) := cell_of_heap hs5 1
      have c2 : W5.cell? ⟨rc, 2, none⟩ = some (.int .i64 M.wrong) := cell_of_heap hs5 2
      obtain ⟨k0, k1, k2, k3, k4⟩ := HCE.out W5 (HE2.out.trans (HEW.out.trans hE5))
      have HE5 := Lib.hid hE5
      have HSU := Lib.hid (HSU.out W5 hE5)
      clear hW5 hs5 hE5 hrc r0 r1 r2 k4
      by_cases hz0 : z = 0
      case neg =>
        have hz3 : z = 3 := HEA.out.1.resolve_left hz0
        have HER := Lib.hid (errC_none HVC.out (HEA.out.2 hz0))
        subst hz3
        clear hz0
        go_wp2_with (go_at_call 61; refine HSU.out.mono ?_; rintro e w6 ⟨u6, rfl, hO6, hE6⟩)
        go_ret2
        exact ⟨_, [], by rw [HER.out]; rfl, by rw [askT_ne (by rw [HER.out]; decide)]; exact RwV.nil _ _ _, HE.out.trans (HE2.out.trans (HEW.out.trans (HE5.out.trans hE6))), CapF.nil _⟩
      subst hz0
      have hbd := hbd rfl
      have hl0 : 0 < l.length := List.length_pos_iff.2 (hnem rfl)
      have HSN1 := Lib.hid (show someN C (k + 1) = false from by rw [HSN.out, HSO.out, bP_f (fun h => h rfl)]; rfl)
      have HBD := Lib.hid hbd
      clear hak hbd hnem HSN HEA
      go_upto_region 13 with (go_at_call 61; refine HSU.out.mono ?_; rintro e W6 ⟨u6, rfl, hO6, hE6⟩)
      obtain ⟨g, cg, rfl, -⟩ := ownsRow_at hO6 0 hl0
      have hE16 := HE5.out.trans hE6
      have hgB : wo.heap.size ≤ g := Nat.le_trans HE5.out.size (hO6.lt g rfl).1
      have HO6 := Lib.hid (ownsRow_base hO6 HE5.out.size)
      have HGB := Lib.hid hgB
      have HE16 := Lib.hid hE16
      have HCG := Lib.hid (fun y (h : Ext wo y) => (⟨(HCE.out y (HE2.out.trans (HEW.out.trans h))).2.1, h.cell X0.out⟩ : y.cell? ⟨s0, 1, none⟩ = some (.slice (some ⟨xb, xo, none⟩) C.meters.length d) ∧ y.cell? ⟨xb, xo + k, none⟩ = some (.int .i64 x)))
      clear hO6 hE6 hE16 hgB k0 k1 k2 k3 c0 c1 c2 HSU
      go_wp2
      go_loopw [42] (fun i w2 => ∃ j : Nat, j ≤ l.length ∧ i = .int .i64 j ∧ Ups g W6 w2 ∧ w2.ownsRow wo.heap.size 3 1 (.slice (some ⟨g, 0, none⟩) l.length cg) l.length (intVs (addTo l x j))) (fun i _ => l.length - (intOf i).toNat)
      case atStart => exact ⟨0, Nat.zero_le _, rfl, Ups.refl _ _, by rw [addTo_zero]; exact HO6.out⟩
      case round =>
        obtain ⟨j, hj, rfl, hU, hO⟩ := hrel
        have hEY : Ext wo wr := HE16.out.ups hU HGB.out
        have HUY := Lib.hid hU
        have HOY := Lib.hid hO
        have HEY := Lib.hid hEY
        by_cases hjl : j < l.length
        · have hjl' : (j : Int) < (l.length : Int) := by omega
          obtain ⟨hc, hfz⟩ := ownsRow_cell hO (i := j) (by rw [addTo_len]; exact hjl)
          have hva : (addTo l x j)[j]'(by rw [addTo_len]; exact hjl) = l[j] := by
            have := addTo_at l x hjl
            rw [List.getElem?_eq_getElem (by rw [addTo_len]; exact hjl)] at this
            exact Option.some.inj this
          rw [hva] at hc
          have hab := HBD.out l[j] (List.getElem_mem hjl)
          have hsu := addTo_succ l x hjl
          obtain ⟨a, ha⟩ : ∃ a, a = l[j] := ⟨_, rfl⟩
          rw [← ha] at hc hab hsu
          have hw : IntKind.i64.wrap (a + x) = a + x := IntWalk.i64_in _ (by omega)
          have HSU := Lib.hid hsu
          have HKC := Lib.hid (fun y (h : Ext wr y) => (⟨h.cell hc, (HCG.out y (hEY.trans h)).1, (HCG.out y (hEY.trans h)).2⟩ :
            y.cell? ⟨g, j, none⟩ = some (.int .i64 a) ∧ y.cell? ⟨s0, 1, none⟩ = some (.slice (some ⟨xb, xo, none⟩) C.meters.length d) ∧ y.cell? ⟨xb, xo + k, none⟩ = some (.int .i64 x)))
          clear hva ha hsu hc hfz hU hO hEY
          go_upto_region 16 with (fail)
          refine wp_region_facts 10 [[], [], [0, 1], [2], [], [4], [], [5, 6], [7], [3, 8]] [0, 1, 9] Ext (FL [Is (.slice (some ⟨g, 0, none⟩) l.length cg), Is (.int .i64 (j : Int)), Is (.pointer (some ⟨g, j, none⟩)), Is (.int .i64 a), Is (.pointer (some ⟨s0, 1, none⟩)), Is (.slice (some ⟨xb, xo, none⟩) C.meters.length d), Is (.int .i64 (k : Int)), Is (.pointer (some ⟨xb, xo + k, none⟩)), Is (.int .i64 x), Is (.int .i64 (a + x))]) (by kernel_rfl) (by kernel_rfl) Ext.refl (fun _ _ _ => Ext.trans) (fun _ _ => Ext.size) (FL.mono ⟨Is.mono, Is.mono, Is.mono, Is.mono, Is.mono, Is.mono, Is.mono, Is.mono, Is.mono, Is.mono, trivial⟩) ⟨?_, ?_, ?_, ?_, ?_, ?_, ?_, ?_, ?_, ?_, trivial⟩ ?_
          · refine opF_step ?_
            intro ys l0 h0 w' hr hf K hK
            clear hf
            simp only [fill, Act.put, dstO, List.take_succ_cons, List.take_zero, List.setIfInBounds_toArray, List.set_cons_zero, List.set_cons_succ, List.getElem?_cons_zero, Nat.zero_add, Nat.reduceAdd] at hK ⊢
            refine OpB.mk' ?_
            go_simp
            exact hK.out _ _ rfl (Ext.refl _)
          · refine opF_step ?_
            intro ys l0 h0 w' hr hf K hK
            clear hf
            simp only [fill, Act.put, dstO, List.take_succ_cons, List.take_zero, List.setIfInBounds_toArray, List.set_cons_zero, List.set_cons_succ, List.getElem?_cons_zero, List.getElem?_cons_succ, Nat.zero_add, Nat.reduceAdd] at hK ⊢
            refine OpB.mk' ?_
            go_simp
            exact hK.out _ _ rfl (Ext.refl _)
          · refine opF_step ?_
            intro ys l0 h0 w' hr hf K hK
            obtain ⟨f0, f1, -⟩ := hf
            have e0 : ys 0 = _ := f0
            have e1 : ys 1 = _ := f1
            simp only [fill, Act.put, dstO, List.take_succ_cons, List.take_zero, List.setIfInBounds_toArray, List.set_cons_zero, List.set_cons_succ, List.getElem?_cons_zero, List.getElem?_cons_succ, Nat.zero_add, Nat.reduceAdd] at hK ⊢
            simp only [e0, e1] at hK ⊢
            clear e0 e1 f0 f1
            refine OpB.mk' ?_
            go_simp
            exact hK.out _ _ rfl (Ext.refl _)
          · refine opF_step ?_
            intro ys l0 h0 w' hr hf K hK
            obtain ⟨f0, -⟩ := hf
            have e0 : ys 2 = _ := f0
            obtain ⟨j0, j1, j2⟩ := HKC.out w' ((Ext.refl wr).drew.trans hr)
            simp only [fill, Act.put, dstO, List.take_succ_cons, List.take_zero, List.setIfInBounds_toArray, List.set_cons_zero, List.set_cons_succ, List.getElem?_cons_zero, List.getElem?_cons_succ, Nat.zero_add, Nat.reduceAdd] at hK ⊢
            simp only [e0] at hK ⊢
            clear e0 f0
            refine OpB.mk' ?_
            go_simp
            exact hK.out _ _ rfl (Ext.refl _)
          · refine opF_step ?_
            intro ys l0 h0 w' hr hf K hK
            clear hf
            simp only [fill, Act.put, dstO, List.take_succ_cons, List.take_zero, List.setIfInBounds_toArray, List.set_cons_zero, List.set_cons_succ, List.getElem?_cons_zero, List.getElem?_cons_succ, Nat.zero_add, Nat.reduceAdd] at hK ⊢
            refine OpB.mk' ?_
            go_simp
            exact hK.out _ _ rfl (Ext.refl _)
          · refine opF_step ?_
            intro ys l0 h0 w' hr hf K hK
            obtain ⟨f0, -⟩ := hf
            have e0 : ys 4 = _ := f0
            obtain ⟨j0, j1, j2⟩ := HKC.out w' ((Ext.refl wr).drew.trans hr)
            simp only [fill, Act.put, dstO, List.take_succ_cons, List.take_zero, List.setIfInBounds_toArray, List.set_cons_zero, List.set_cons_succ, List.getElem?_cons_zero, List.getElem?_cons_succ, Nat.zero_add, Nat.reduceAdd] at hK ⊢
            simp only [e0] at hK ⊢
            clear e0 f0
            refine OpB.mk' ?_
            go_simp
            exact hK.out _ _ rfl (Ext.refl _)
          · refine opF_step ?_
            intro ys l0 h0 w' hr hf K hK
            clear hf
            simp only [fill, Act.put, dstO, List.take_succ_cons, List.take_zero, List.setIfInBounds_toArray, List.set_cons_zero, List.set_cons_succ, List.getElem?_cons_zero, List.getElem?_cons_succ, Nat.zero_add, Nat.reduceAdd] at hK ⊢
            refine OpB.mk' ?_
            go_simp
            exact hK.out _ _ rfl (Ext.refl _)
          · refine opF_step ?_
            intro ys l0 h0 w' hr hf K hK
            obtain ⟨f0, f1, -⟩ := hf
            have e0 : ys 5 = _ := f0
            have e1 : ys 6 = _ := f1
            simp only [fill, Act.put, dstO, List.take_succ_cons, List.take_zero, List.setIfInBounds_toArray, List.set_cons_zero, List.set_cons_succ, List.getElem?_cons_zero, List.getElem?_cons_succ, Nat.zero_add, Nat.reduceAdd] at hK ⊢
            simp only [e0, e1] at hK ⊢
            clear e0 e1 f0 f1
            refine OpB.mk' ?_
            go_simp
            exact hK.out _ _ rfl (Ext.refl _)
          · refine opF_step ?_
            intro ys l0 h0 w' hr hf K hK
            obtain ⟨f0, -⟩ := hf
            have e0 : ys 7 = _ := f0
            obtain ⟨j0, j1, j2⟩ := HKC.out w' ((Ext.refl wr).drew.trans hr)
            simp only [fill, Act.put, dstO, List.take_succ_cons, List.take_zero, List.setIfInBounds_toArray, List.set_cons_zero, List.set_cons_succ, List.getElem?_cons_zero, List.getElem?_cons_succ, Nat.zero_add, Nat.reduceAdd] at hK ⊢
            simp only [e0] at hK ⊢
            clear e0 f0
            refine OpB.mk' ?_
            go_simp
            exact hK.out _ _ rfl (Ext.refl _)
          · refine opF_step ?_
            intro ys l0 h0 w' hr hf K hK
            obtain ⟨f0, f1, -⟩ := hf
            have e0 : ys 3 = _ := f0
            have e1 : ys 8 = _ := f1
            simp only [fill, Act.put, dstO, List.take_succ_cons, List.take_zero, List.setIfInBounds_toArray, List.set_cons_zero, List.set_cons_succ, List.getElem?_cons_zero, List.getElem?_cons_succ, Nat.zero_add, Nat.reduceAdd] at hK ⊢
            simp only [e0, e1] at hK ⊢
            clear e0 e1 f0 f1
            refine OpB.mk' ?_
            go_simp
            exact hK.out _ _ rfl (Ext.refl _)
          intro ys l0 h0 w2 hr hf hsp
          obtain ⟨f0, f1, f9, -⟩ := hf
          have e0 : ys 0 = _ := f0
          have e1 : ys 1 = _ := f1
          have e9 : ys 9 = _ := f9
          simp only [fill, Act.put, List.take_succ_cons, List.take_zero, List.setIfInBounds_toArray, List.set_cons_zero, List.set_cons_succ, Nat.zero_add, Nat.reduceAdd, List.drop_succ_cons, List.drop_zero]
          rw [e0, e1, e9]
          clear e0 f0 e1 f1 e9 f9 hsp
          have hEW2 : Ext wr w2 := (Ext.refl wr).drew.trans hr
          have hO2 := ownsRow_ext HOY.out hEW2
          obtain ⟨hc2, hf2⟩ := ownsRow_cell hO2 (i := j) (by rw [addTo_len]; exact hjl)
          have HO2 := Lib.hid hO2
          have HU2 := Lib.hid (HUY.out.trans (Ups.ext hEW2))
          clear hO2 hEW2 hr
          go_wp2
          go_roundw
          case rel => exact ⟨j + 1, by omega, by simp, HU2.out.setCell _ _, by rw [HSU.out]; exact ownsRow_set HO2.out⟩
          case measure => simp [intOf]; omega
        · obtain rfl : j = l.length := by omega
          have hge : ¬(l.length : Int) < (l.length : Int) := by omega
          rw [addTo_all, ← HRO.out] at hO
          have hln : l.length = (rowC C k).length := by rw [HRO.out]; simp
          have hlv : vs.length = k := by have := HR.out.len; rw [tabTo_len] at this; exact this
          have hni := fun r (hr : ∀ b, r = some b → b < wo.heap.size) => own_ne_ints hln hO r hr
          have HNI := Lib.hid (fun r (hr : ∀ b, r = some b → b < wo.heap.size) => (by
            obtain ⟨q', c', he, hn⟩ := own_ne_ints hln hO r hr
            cases he
            exact hn : IntsNe r wr (some ⟨g, 0, none⟩) (rowC C k)))
          have HLN : EqS l.length (rowC C k).length := ⟨hln⟩
          have HLV : EqS vs.length k := ⟨hlv⟩
          clear hln hlv hni hU hO hEY
          have hsz := HEY.out.size
          have hszw := HEW.out.size
          go_wp2_with (at_builtin; refine wpList_append_lies _ rfl (.tmp 57) (.tmp 59) 69 rfl W2.heap.size 23 i1 (.slice none 0 0) 1 24 Tryz.underlying69 HI1.out.1 HI1.out.2.1 HI1.out.2.2.1 HI1.out.2.2.2 rfl (by decide) _ vs.length vs rfl (ownsRow_ext HR.out.out (HEY.out.alloc _)) ⟨wr.heap.size, 0, none⟩ 1 1 [.slice (some ⟨g, 0, none⟩) l.length cg] rfl rfl (hnewsE (Ext.refl _) rfl) (fun u hu => by rw [List.mem_singleton.1 hu]; rfl) (by decide) ?c3 ?c4 ?c5 (wr.heap.size + 1) (size_alloc _ _) ?_)
          case c3 => have := HLV.out; unfold maxLen; omega
          case c4 => have := HLV.out; omega
          case c5 => first | omega | (rw [size_alloc]; omega)
          intro g4 cap4 w4 hown4 hgr4 hat4 hlt4
          have hE4 : Ext W2 w4 := Below.grown (HEW.out.trans (HEY.out.alloc _)) hgr4 (HEW.out.trans (HEY.out.alloc _)).size (fun i hi => (HR.out.out.lt i hi).1)
          have hstep := HR.out.step (r := none) (xs := [.slice (some ⟨g, 0, none⟩) l.length cg]) (Ms := [rowC C k]) (HEY.out.alloc _) rfl (fun i hi => by
            obtain rfl : i = 0 := by simpa using hi
            exact ⟨_, cg, by rw [HLN.out]; rfl, (HNI.out _ (fun b hb => (HR.out.out.lt b hb).2)).ext (Ext.alloc (Ext.refl _) _)⟩) (fun i hi => by
            obtain rfl : i = 0 := by simpa using hi
            exact ⟨_, cg, by rw [HLN.out]; rfl, (HNI.out _ (fun b hb => by cases hb)).ext (Ext.alloc (Ext.refl _) _)⟩) hown4 hgr4 (by rw [size_alloc]; exact hat4)
          rw [← tabTo_succ] at hstep
          have HE4 := Lib.hid hE4
          have HST := Lib.hid hstep
          clear hown4 hgr4 hat4 hlt4 hE4 hstep
          go_wp2
          go_roundw
          case rel => exact ⟨k + 1, _, by omega, by simp, HE4.out, HST.out, HSN1.out, HCP.out.snoc (own_cap HO6.out) (fun b hb => by cases hb; exact Nat.le_trans HEW.out.size HGB.out)⟩
          case measure => simp [intOf]; omega
    · obtain rfl : k = C.meters.length := by omega
      have hlt' : ¬(C.meters.length : Int) < (C.meters.length : Int) := by omega
      have HER := Lib.hid (errC_ok HVC.out HSO.out)
      go_wp2
      go_ret2
      exact ⟨_, vs, by rw [HER.out]; rfl, by rw [askT_0 HER.out]; exact HR.out.base (HE.out.trans HE2.out).size, HE.out.trans (HE2.out.trans HEW.out), HCP.out.base (HE.out.trans HE2.out).size⟩

set_option maxRecDepth 20000 in
set_option maxHeartbeats 3200000 in
theorem Numbers06F (C : Ch) (n : Int) (v : Value) (w : World) (hv : ChV w v C) (hs : ChSm C) (hT : TabW w) :
    Calls Tryz.prog 8 #[v, .int .i64 n] w (RetNF (numsA C n) (errT C n) w) := by
  have HV := Lib.hid hv
  have HS := Lib.hid hs
  have HT := Lib.hid hT
  obtain ⟨p, c, q, d, rfl, hp, hq⟩ := hv
  clear hp hq hT hs
  go_enter Tryz.func8, Tryz.ntmps8
  go_upto_region 1 with (fail)
  obtain ⟨s0, hs0⟩ : ∃ s0, s0 = w.heap.size := ⟨_, rfl⟩
  obtain ⟨W, hW⟩ : ∃ W, W = w.alloc (.cells #[.slice p C.meters.length c, .slice q C.extra.length d, .int .i64 C.frm, .int .i64 C.tto] 25) := ⟨_, rfl⟩
  have m0 : W.heap[s0]? = some (.cells #[.slice p C.meters.length c, .slice q C.extra.length d, .int .i64 C.frm, .int .i64 C.tto] 25) := by rw [hs0, hW]; exact heap_new _ _
  have hE : Ext w W := by rw [hW]; exact Ext.alloc (Ext.refl _) _
  rw [← hs0, ← hW]
  have HKC := Lib.hid (fun y (h : Ext W y) => (⟨h.cell (cell_of_heap m0 0), h.cell (cell_of_heap m0 1), h.cell (cell_of_heap m0 2), h.cell (cell_of_heap m0 3)⟩ :
    y.cell? ⟨s0, 0, none⟩ = some (.slice p C.meters.length c) ∧ y.cell? ⟨s0, 1, none⟩ = some (.slice q C.extra.length d) ∧ y.cell? ⟨s0, 2, none⟩ = some (.int .i64 C.frm) ∧ y.cell? ⟨s0, 3, none⟩ = some (.int .i64 C.tto)))
  have HE := Lib.hid hE
  have HVW := Lib.hid (fun y (h : Ext W y) => HV.out.ext (HE.out.trans h))
  obtain ⟨b, hb⟩ : ∃ b, b = isTB C n := ⟨_, rfl⟩
  have HIS := Lib.hid (fun y (h : Ext W y) => (show Calls Tryz.prog 32 #[.agg #[.slice p C.meters.length c, .slice q C.extra.length d, .int .i64 C.frm, .int .i64 C.tto], .int .i64 n] y (RetE (.bool b) y) from by rw [hb]; exact isTitle06 C n _ y (HVW.out y h)))
  have HB := Lib.hid hb
  clear hb
  clear hW m0 hE hs0
  obtain ⟨T, hTT⟩ : ∃ T, T = askT C b := ⟨_, rfl⟩
  obtain ⟨z, hz⟩ : ∃ z, z = errC C b := ⟨_, rfl⟩
  have HAK := Lib.hid (fun y (h : Ext W y) => (show Calls Tryz.prog 31 #[.agg #[.slice p C.meters.length c, .slice q C.extra.length d, .int .i64 C.frm, .int .i64 C.tto], .bool b] y (RetTbF T z y) from by rw [hTT, hz]; exact ask06F C b _ y (HV.out.ext (HE.out.trans h)) HS.out (HT.out.ext (HE.out.trans h))))
  have HTZ := Lib.hid (⟨hTT, hz⟩ : T = askT C b ∧ z = errC C b)
  clear hTT hz
  refine wp_region_facts 9 [[], [], [], [1, 2], [0, 3], [4], [5], [5], [6]] [8, 7] Ext (FL [Is (.agg #[.slice p C.meters.length c, .slice q C.extra.length d, .int .i64 C.frm, .int .i64 C.tto]), Is (.agg #[.slice p C.meters.length c, .slice q C.extra.length d, .int .i64 C.frm, .int .i64 C.tto]), Is (.int .i64 n), Is (.bool b), TabFF T z W.heap.size, TabFF T z W.heap.size, RowFF T W.heap.size, Is (.int .i64 z), RowFF T W.heap.size]) (by kernel_rfl) (by kernel_rfl) Ext.refl (fun _ _ _ => Ext.trans) (fun _ _ => Ext.size) (FL.mono ⟨Is.mono, Is.mono, Is.mono, Is.mono, TabFF.mono, TabFF.mono, RowFF.mono, Is.mono, RowFF.mono, trivial⟩) ⟨?_, ?_, ?_, ?_, ?_, ?_, ?_, ?_, ?_, trivial⟩ ?_
  · refine opF_step ?_
    intro ys l0 h0 w' hr hf K hK
    clear hf
    obtain ⟨j0, j1, j2, j3⟩ := HKC.out w' ((Ext.refl W).drew.trans hr)
    simp only [fill, Act.put, dstO, List.take_succ_cons, List.take_zero, List.setIfInBounds_toArray, List.set_cons_zero, List.set_cons_succ, List.getElem?_cons_zero, Nat.zero_add, Nat.reduceAdd] at hK ⊢
    refine OpB.mk' ?_
    go_simp
    exact hK.out _ _ rfl (Ext.refl _)
  · refine opF_step ?_
    intro ys l0 h0 w' hr hf K hK
    clear hf
    obtain ⟨j0, j1, j2, j3⟩ := HKC.out w' ((Ext.refl W).drew.trans hr)
    simp only [fill, Act.put, dstO, List.take_succ_cons, List.take_zero, List.setIfInBounds_toArray, List.set_cons_zero, List.set_cons_succ, List.getElem?_cons_zero, List.getElem?_cons_succ, Nat.zero_add, Nat.reduceAdd] at hK ⊢
    refine OpB.mk' ?_
    go_simp
    exact hK.out _ _ rfl (Ext.refl _)
  · refine opF_step ?_
    intro ys l0 h0 w' hr hf K hK
    clear hf
    simp only [fill, Act.put, dstO, List.take_succ_cons, List.take_zero, List.setIfInBounds_toArray, List.set_cons_zero, List.set_cons_succ, List.getElem?_cons_zero, List.getElem?_cons_succ, Nat.zero_add, Nat.reduceAdd] at hK ⊢
    refine OpB.mk' ?_
    go_simp
    exact hK.out _ _ rfl (Ext.refl _)
  · refine opF_step ?_
    intro ys l0 h0 w' hr hf K hK
    obtain ⟨f0, f1, -⟩ := hf
    have e0 : ys 1 = _ := f0
    have e1 : ys 2 = _ := f1
    simp only [fill, Act.put, dstO, List.take_succ_cons, List.take_zero, List.setIfInBounds_toArray, List.set_cons_zero, List.set_cons_succ, List.getElem?_cons_zero, List.getElem?_cons_succ, Nat.zero_add, Nat.reduceAdd] at hK ⊢
    simp only [e0, e1] at hK ⊢
    clear e0 e1 f0 f1
    refine OpB.mk' ?_
    go_simp
    refine (HIS.out w' ((Ext.refl W).drew.trans hr)).mono ?_
    rintro e w2 ⟨rfl, hE2⟩
    exact hK.out _ _ rfl hE2
  · refine opF_step ?_
    intro ys l0 h0 w' hr hf K hK
    obtain ⟨f0, f1, -⟩ := hf
    have e0 : ys 0 = _ := f0
    have e1 : ys 3 = _ := f1
    simp only [fill, Act.put, dstO, List.take_succ_cons, List.take_zero, List.setIfInBounds_toArray, List.set_cons_zero, List.set_cons_succ, List.getElem?_cons_zero, List.getElem?_cons_succ, Nat.zero_add, Nat.reduceAdd] at hK ⊢
    simp only [e0, e1] at hK ⊢
    clear e0 e1 f0 f1
    refine OpB.mk' ?_
    go_simp
    refine (HAK.out w' ((Ext.refl W).drew.trans hr)).mono ?_
    rintro e w2 ⟨u, vs, rfl, hR, hE2, hcp⟩
    exact hK.out _ _ ⟨u, vs, rfl, hR.base (Ext.size ((Ext.refl W).drew.trans hr)), hcp.base (Ext.size ((Ext.refl W).drew.trans hr))⟩ hE2
  · refine opF_step ?_
    intro ys l0 h0 w' hr hf K hK
    obtain ⟨f0, -⟩ := hf
    obtain ⟨u, vs, e0, hR, hcp⟩ := f0
    simp only [fill, Act.put, dstO, List.take_succ_cons, List.take_zero, List.setIfInBounds_toArray, List.set_cons_zero, List.set_cons_succ, List.getElem?_cons_zero, List.getElem?_cons_succ, Nat.zero_add, Nat.reduceAdd] at hK ⊢
    simp only [e0] at hK ⊢
    clear e0
    refine OpB.mk' ?_
    go_simp
    exact hK.out _ _ ⟨u, vs, rfl, hR, hcp⟩ (Ext.refl _)
  · refine opF_step ?_
    intro ys l0 h0 w' hr hf K hK
    obtain ⟨f0, -⟩ := hf
    obtain ⟨u, vs, e0, hR, hcp⟩ := f0
    simp only [fill, Act.put, dstO, List.take_succ_cons, List.take_zero, List.setIfInBounds_toArray, List.set_cons_zero, List.set_cons_succ, List.getElem?_cons_zero, List.getElem?_cons_succ, Nat.zero_add, Nat.reduceAdd] at hK ⊢
    simp only [e0] at hK ⊢
    clear e0
    refine OpB.mk' ?_
    go_simp
    exact hK.out _ _ ⟨vs, hR, hcp⟩ (Ext.refl _)
  · refine opF_step ?_
    intro ys l0 h0 w' hr hf K hK
    obtain ⟨f0, -⟩ := hf
    obtain ⟨u, vs, e0, hR, hcp⟩ := f0
    simp only [fill, Act.put, dstO, List.take_succ_cons, List.take_zero, List.setIfInBounds_toArray, List.set_cons_zero, List.set_cons_succ, List.getElem?_cons_zero, List.getElem?_cons_succ, Nat.zero_add, Nat.reduceAdd] at hK ⊢
    simp only [e0] at hK ⊢
    clear e0
    refine OpB.mk' ?_
    go_simp
    exact hK.out _ _ rfl (Ext.refl _)
  · refine opF_step ?_
    intro ys l0 h0 w' hr hf K hK
    obtain ⟨f0, -⟩ := hf
    simp only [fill, Act.put, dstO, List.take_succ_cons, List.take_zero, List.setIfInBounds_toArray, List.set_cons_zero, List.set_cons_succ, List.getElem?_cons_zero, List.getElem?_cons_succ, Nat.zero_add, Nat.reduceAdd] at hK ⊢
    refine OpB.mk' ?_
    go_simp
    exact hK.out _ _ f0 (Ext.refl _)
  intro ys l0 h0 w2 hr hf hsp
  obtain ⟨f8, f7, -⟩ := hf
  obtain ⟨vs, hR, hcp⟩ := f8
  have e7 : ys 7 = _ := f7
  simp only [fill, Act.put, List.take_succ_cons, List.take_zero, List.setIfInBounds_toArray, List.set_cons_zero, List.set_cons_succ, Nat.zero_add, Nat.reduceAdd, List.drop_succ_cons, List.drop_zero]
  rw [e7]
  clear e7 f7
  generalize ys 8 = u at hR ⊢
  clear hsp
  have hEW : Ext W w2 := (Ext.refl W).drew.trans hr
  have HR := Lib.hid hR
  have HCP := Lib.hid hcp
  have HEW := Lib.hid hEW
  obtain ⟨qt, ct, rfl, hLT⟩ := hR.lists
  have HLT := Lib.hid hLT
  clear hr hEW hR hcp hLT HAK
  by_cases hz0 : z = 0
  case neg =>
    have hg : (z == 0) = false := by simpa using hz0
    have HNA := Lib.hid (show numsA C n = [] from by unfold numsA; rw [← HB.out, askT_ne (by rw [← HTZ.out.2]; exact hz0)]; exact rowT_nil _)
    have HZ := Lib.hid (show errT C n = z from by unfold errT; rw [← HB.out, HTZ.out.2])
    clear hz0
    go_wp2
    go_ret2
    exact ⟨none, 0, by rw [HNA.out, HZ.out]; rfl, by rw [HNA.out]; exact IntsAt.nil _ _, HE.out.trans HEW.out, fun a ha => by cases ha⟩
  subst hz0
  obtain ⟨hC, hbt, hso⟩ := errC_0 HTZ.out.2.symm
  have hTC : T = tabC C := by rw [HTZ.out.1, askT_0 HTZ.out.2.symm]
  have htl : T.length = C.meters.length := by rw [hTC, tabC_len]
  obtain ⟨h0, h1⟩ := isTB_iff.1 (HB.out.symm.trans hbt)
  obtain ⟨i, rfl⟩ : ∃ i : Nat, n = i := ⟨n.toNat, by omega⟩
  have hi : i < T.length := by omega
  have HNA := Lib.hid (show numsA C i = rowT T i from by unfold numsA; rw [← HB.out, ← HTZ.out.1, Int.toNat_natCast])
  have HZ := Lib.hid (show errT C i = 0 from by unfold errT; rw [← HB.out, ← HTZ.out.2])
  obtain ⟨bb, oo, qq, cc, hqt, c1, c2, c3⟩ := rowF HR.out HCP.out hi
  have HC3 := Lib.hid c3
  subst hqt
  have hlt : (i : Int) < (T.length : Int) := by omega
  have HC2 := Lib.hid c2
  obtain ⟨ln, hln⟩ : ∃ ln, ln = (rowT T i).length := ⟨_, rfl⟩
  rw [← hln] at c1
  have HLN := Lib.hid hln
  clear hC hbt hso hTC htl h0 h1 c2 c3 hln
  go_wp2
  go_ret2
  exact ⟨qq, cc, by rw [HNA.out, HZ.out, ← HLN.out]; rfl, by rw [HNA.out]; exact HC2.out, HE.out.trans HEW.out, fun a ha => Nat.le_trans HE.out.size (HC3.out a ha)⟩
end Go.Proofs.YtppncdbhebgcaaaGreatDoor
