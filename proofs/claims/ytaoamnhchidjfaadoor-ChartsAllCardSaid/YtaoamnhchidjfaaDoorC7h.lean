
/- Charts: the walks of open and Next. -/
import Derived.Test.YtaoamnhchidjfaaDoorC7e
namespace Go.Proofs.YtaoamnhchidjfaaDoor
open Go.RowKit

def opTo (T : Tab) (f : Int) (k : Nat) : Nat := (List.range k).countP (openF T f)
theorem opTo_succ (T : Tab) (f : Int) (k : Nat) : opTo T f (k + 1) = opTo T f k + if openF T f k = true then 1 else 0 := by
  unfold opTo
  rw [List.range_succ, List.countP_append]
  simp [List.countP_cons]
theorem opTo_le (T : Tab) (f : Int) (k : Nat) : opTo T f k ≤ k := by
  have := List.countP_le_length (p := openF T f) (l := List.range k)
  rw [List.length_range] at this
  exact this
set_option maxRecDepth 20000 in
set_option maxHeartbeats 3200000 in
theorem open06 (T : Tab) (hT : TabOK T) (hs : ∀ l ∈ T, l.length ≤ 2000) (hn : T.length ≤ 6) (f : Int) (q : Option Addr) (c : Nat) (w : World) (hv : ListsAt w q T) :
    Calls Tryd.prog 40 #[.slice q T.length c, .int .i64 f] w (RetE (.int .i64 (openN T f : Nat)) w) := by
  have HRK := Lib.hid (fun j (hj : j < T.length) y (h : Ext w y) => rank06 T hT j hj hs (by omega) q c y (hv.ext h))
  clear hv
  go_enter Tryd.func40, Tryd.ntmps40
  go_wp2
  go_loopw [5, 10] (fun u i wr => ∃ j : Nat, j ≤ T.length ∧ i = .int .i64 j ∧ u = .int .i64 (opTo T f j : Nat) ∧ Ext w wr) (fun _ i _ => T.length - (intOf i).toNat)
  case atStart => exact ⟨0, Nat.zero_le _, rfl, rfl, Ext.refl _⟩
  case round =>
    obtain ⟨j, hj, rfl, rfl, hE⟩ := hrel
    have HE := Lib.hid hE
    clear hE
    by_cases hlt : j < T.length
    · have hlt' : (j : Int) < (T.length : Int) := by omega
      have HRJ := Lib.hid (HRK.out j hlt wr HE.out)
      unfold rkV at HRJ
      have HOS := Lib.hid (opTo_succ T f j)
      have hle := opTo_le T f j
      have hov : openF T f j = (decide (((rkLo T j : Nat) : Int) ≤ f) && decide (f < ((rkHi T j : Nat) : Int))) := rfl
      obtain ⟨x1, hx1⟩ : ∃ x : Nat, x = rkLo T j := ⟨_, rfl⟩
      obtain ⟨x2, hx2⟩ : ∃ x : Nat, x = rkHi T j := ⟨_, rfl⟩
      rw [← hx1, ← hx2] at HRJ hov
      obtain ⟨m, hm⟩ : ∃ m, m = opTo T f j := ⟨_, rfl⟩
      rw [← hm] at HOS hle ⊢
      have hw : IntKind.i64.wrap ((m : Int) + 1) = (m : Int) + 1 := IntWalk.i64_in _ (by omega)
      have HOV := Lib.hid hov
      clear hx1 hx2 hm hov
      by_cases h1 : (x1 : Int) ≤ f
      · by_cases h2 : f < (x2 : Int)
        · have HN := Lib.hid (show opTo T f (j + 1) = m + 1 from by rw [HOS.out, if_pos (by rw [HOV.out, decide_eq_true h1, decide_eq_true h2]; rfl)])
          clear HOS HOV
          go_wp2_with (go_at_call 29; refine HRJ.out.mono ?_; rintro e w3 ⟨rfl, hE3⟩)
          go_roundw
          case rel => exact ⟨j + 1, by omega, by simp, by rw [HN.out]; rfl, HE.out.trans (hE3.alloc _)⟩
          case measure => simp [intOf]; omega
        · have HN := Lib.hid (show opTo T f (j + 1) = m from by rw [HOS.out, if_neg (by rw [HOV.out, decide_eq_true h1, decide_eq_false h2]; decide)]; rfl)
          clear HOS HOV
          go_wp2_with (go_at_call 29; refine HRJ.out.mono ?_; rintro e w3 ⟨rfl, hE3⟩)
          go_roundw
          case rel => exact ⟨j + 1, by omega, by simp, by rw [HN.out], HE.out.trans (hE3.alloc _)⟩
          case measure => simp [intOf]; omega
      · have HN := Lib.hid (show opTo T f (j + 1) = m from by rw [HOS.out, if_neg (by rw [HOV.out, decide_eq_false h1]; simp)]; rfl)
        clear HOS HOV
        go_wp2_with (go_at_call 29; refine HRJ.out.mono ?_; rintro e w3 ⟨rfl, hE3⟩)
        go_roundw
        case rel => exact ⟨j + 1, by omega, by simp, by rw [HN.out], HE.out.trans (hE3.alloc _)⟩
        case measure => simp [intOf]; omega
    · obtain rfl : j = T.length := by omega
      have hge : ¬(T.length : Int) < (T.length : Int) := by omega
      go_wp2
      go_ret
      exact RetE.fin HE.out rfl
theorem IntsNe.ups {g : Nat} {w w' : World} {q : Option Addr} {l : List Int} (h : IntsNe (some g) w q l) (hU : Ups g w w') : IntsNe (some g) w' q l := by
  intro j hj
  obtain ⟨b, o, hq, hn, hc⟩ := h j hj
  exact ⟨b, o, hq, hn, hU.cell hc (fun e => hn (by rw [e]))⟩
/-- a table whose rows lie in other blocks than its own -/
def PinAt (w : World) (B gt n cap : Nat) (L : Tab) : Prop :=
  L.length = n ∧ ∃ vs, w.ownsRow B 23 1 (.slice (some ⟨gt, 0, none⟩) n cap) n vs ∧ ∀ i (h : i < L.length), ∃ p c, L[i].length ≤ c ∧ vs[i]? = some (.slice p L[i].length c) ∧ IntsNe (some gt) w p L[i]
section
variable {w w' : World} {B gt n cap : Nat} {L : Tab}
theorem PinAt.ext (h : PinAt w B gt n cap L) (hE : Ext w w') : PinAt w' B gt n cap L := by
  obtain ⟨h1, vs, h2, h3⟩ := h
  exact ⟨h1, vs, ownsRow_ext h2 hE, fun i hi => by obtain ⟨p, c, k1, k2, k3⟩ := h3 i hi; exact ⟨p, c, k1, k2, k3.ext hE⟩⟩
theorem PinAt.row (h : PinAt w B gt n cap L) {i : Nat} (hi : i < n) : ∃ p c, (rowT L i).length ≤ c ∧ w.cell? ⟨gt, i, none⟩ = some (.slice p (rowT L i).length c) ∧ IntsNe (some gt) w p (rowT L i) ∧ w.frozen? ⟨gt, i, none⟩ = false := by
  obtain ⟨h1, vs, h2, h3⟩ := h
  obtain ⟨p, c, k1, k2, k3⟩ := h3 i (by omega)
  obtain ⟨b, cc, he, hc⟩ := ownsRow_at h2 i hi
  cases he
  rw [k2] at hc
  rw [rowT_get (by omega)]
  refine ⟨p, c, k1, hc, k3, ?_⟩
  rcases h2.2 with ⟨hv, -⟩ | ⟨g', cap, cur, hv, -, hg, -⟩
  · cases hv
  · cases hv; exact cell_frozen hg i
theorem PinAt.lists (h : PinAt w B gt n cap L) : ListsAt w (some ⟨gt, 0, none⟩) L := by
  intro i hi
  obtain ⟨p, c, -, hc, hn, -⟩ := h.row (i := i) (by have := h.1; omega)
  rw [rowT_get hi] at hc hn
  exact ⟨gt, 0, _, rfl, by rw [Nat.zero_add]; exact hc, p, c, rfl, hn.ints⟩
theorem PinAt.set (h : PinAt w B gt n cap L) {i : Nat} (hi : i < n) {p : Option Addr} {r : List Int} {c : Nat} (hn : IntsNe (some gt) w p r) (hc : r.length ≤ c) : PinAt (w.setCell ⟨gt, i, none⟩ (.slice p r.length c)) B gt n cap (L.set i r) := by
  obtain ⟨h1, vs, h2, h3⟩ := h
  have hU : Ups gt w (w.setCell ⟨gt, i, none⟩ (.slice p r.length c)) := (Ups.refl _ _).setCell _ _
  refine ⟨by rw [List.length_set]; exact h1, _, ownsRow_setV h2, fun j hj => ?_⟩
  rw [List.length_set] at hj
  by_cases e : i = j
  · subst e
    have hvl : i < vs.length := by have := h2.1; omega
    rw [List.getElem_set_self]
    exact ⟨p, c, hc, List.getElem?_set_self hvl, hn.ups hU⟩
  · obtain ⟨p', c', k1, k2, k3⟩ := h3 j hj
    rw [List.getElem_set_ne e]
    exact ⟨p', c', k1, by rw [List.getElem?_set_ne e]; exact k2, k3.ups hU⟩
theorem pin_of {v : Value} {vs : List Value} {qt : Option Addr} {ct : Nat} (hR : RwV w B v vs L none) (hc : CapOK vs) (hv : v = .slice qt L.length ct) (h0 : 0 < L.length) : ∃ gt, qt = some ⟨gt, 0, none⟩ ∧ B ≤ gt ∧ gt < w.heap.size ∧ PinAt w B gt L.length ct L := by
  obtain ⟨b, cc, he, -⟩ := ownsRow_at hR.out 0 (by rw [hR.len]; exact h0)
  rw [hv] at he
  injection he with e1 e2 e3
  subst e1
  have hlt := hR.out.lt b (by rw [hv]; rfl)
  refine ⟨b, rfl, hlt.1, hlt.2, rfl, vs, by rw [← hv]; rw [← hR.len]; exact hR.out, fun i hi => ?_⟩
  obtain ⟨p, c, k1, k2⟩ := hR.row i hi
  obtain ⟨p', n', c', e, hle⟩ := hc _ (List.mem_of_getElem? k1)
  cases e
  rw [hv] at k2
  exact ⟨p, c, hle, k1, k2⟩
end
noncomputable def nextTA (C : Ch) (n : Int) : Int := okN (errF C n) (if (nxTo (tabC C) n C.meters.length).1 < 0 then 0 else (nxTo (tabC C) n C.meters.length).1)
noncomputable def nextTE (C : Ch) (n : Int) : Int := if errF C n = 0 then (if (nxTo (tabC C) n C.meters.length).1 < 0 then 3 else 0) else errF C n
theorem nxTo_bd {T : Tab} (hn : T.length ≤ 6) (f : Int) : ∀ k, k ≤ T.length → -1 ≤ (nxTo T f k).1 ∧ (nxTo T f k).1 < (k : Int) ∧ 0 ≤ (nxTo T f k).2 ∧ (nxTo T f k).2 ≤ 6 := by
  intro k
  induction k with
  | zero => intro _; unfold nxTo; simp
  | succ k ih =>
    intro hk
    have h1 := ih (by omega)
    have h2 := mostT_bd T f k _ (Nat.le_refl _)
    rw [nxTo_succ]
    unfold nxStep
    split
    · omega
    · split
      · simp only; omega
      · omega

set_option maxRecDepth 20000 in
set_option maxHeartbeats 6400000 in
theorem Next06 (C : Ch) (n : Int) (v : Value) (w : World) (hv : ChV w v C) (hs : ChSm C) (hT : TabW w) (hwf : (Lit.int .i64 n).wf = true) :
    Calls Tryd.prog 21 #[v, .int .i64 n] w (RetE (.tuple #[.int .i64 (nextTA C n), .int .i64 (nextTE C n)]) w) := by
  have HV := Lib.hid hv
  have HS := Lib.hid hs
  have HT := Lib.hid hT
  obtain ⟨p, c, q, d, rfl, hp, hq⟩ := hv
  clear hp hq hT hs
  go_enter Tryd.func21, Tryd.ntmps21
  go_upto_region 1 with (fail)
  obtain ⟨s0, hs0⟩ : ∃ s0, s0 = w.heap.size := ⟨_, rfl⟩
  obtain ⟨W, hW⟩ : ∃ W, W = w.alloc (.cells #[.slice p C.meters.length c, .slice q C.extra.length d, .int .i64 C.frm, .int .i64 C.tto] 25) := ⟨_, rfl⟩
  have m0 : W.heap[s0]? = some (.cells #[.slice p C.meters.length c, .slice q C.extra.length d, .int .i64 C.frm, .int .i64 C.tto] 25) := by rw [hs0, hW]; exact heap_new _ _
  have hE : Ext w W := by rw [hW]; exact Ext.alloc (Ext.refl _) _
  rw [← hs0, ← hW]
  have HKC := Lib.hid (fun y (h : Ext W y) => (⟨h.cell (cell_of_heap m0 0), h.cell (cell_of_heap m0 1), h.cell (cell_of_heap m0 2), h.cell (cell_of_heap m0 3)⟩ :
    y.cell? ⟨s0, 0, none⟩ = some (.slice p C.meters.length c) ∧ y.cell? ⟨s0, 1, none⟩ = some (.slice q C.extra.length d) ∧ y.cell? ⟨s0, 2, none⟩ = some (.int .i64 C.frm) ∧ y.cell? ⟨s0, 3, none⟩ = some (.int .i64 C.tto)))
  have HE := Lib.hid hE
  have HVW := Lib.hid (fun y (h : Ext W y) => HV.out.ext (HE.out.trans h))
  obtain ⟨b, hb⟩ : ∃ b, b = isFB C n := ⟨_, rfl⟩
  have HIS := Lib.hid (fun y (h : Ext W y) => (show Calls Tryd.prog 34 #[.agg #[.slice p C.meters.length c, .slice q C.extra.length d, .int .i64 C.frm, .int .i64 C.tto], .int .i64 n] y (RetE (.bool b) y) from by rw [hb]; exact isFirst06 C n _ y (HVW.out y h) hwf (by have := HS.out.nm; omega)))
  have HB := Lib.hid hb
  clear hb hwf
  clear hW m0 hE hs0
  obtain ⟨T, hTT⟩ : ∃ T, T = askT C b := ⟨_, rfl⟩
  obtain ⟨z, hz⟩ : ∃ z, z = errC C b := ⟨_, rfl⟩
  have HAK := Lib.hid (fun y (h : Ext W y) => (show Calls Tryd.prog 27 #[.agg #[.slice p C.meters.length c, .slice q C.extra.length d, .int .i64 C.frm, .int .i64 C.tto], .bool b] y (RetTb T z y) from by rw [hTT, hz]; exact ask06 C b _ y (HV.out.ext (HE.out.trans h)) HS.out (HT.out.ext (HE.out.trans h))))
  have HTZ := Lib.hid (⟨hTT, hz⟩ : T = askT C b ∧ z = errC C b)
  clear hTT hz
  refine wp_region_facts 9 [[], [], [], [1, 2], [0, 3], [4], [5], [5], [6]] [8, 7] Ext (FL [Is (.agg #[.slice p C.meters.length c, .slice q C.extra.length d, .int .i64 C.frm, .int .i64 C.tto]), Is (.agg #[.slice p C.meters.length c, .slice q C.extra.length d, .int .i64 C.frm, .int .i64 C.tto]), Is (.int .i64 n), Is (.bool b), TabF T z W.heap.size, TabF T z W.heap.size, RowF T W.heap.size, Is (.int .i64 z), RowF T W.heap.size]) (by kernel_rfl) (by kernel_rfl) Ext.refl (fun _ _ _ => Ext.trans) (fun _ _ => Ext.size) (FL.mono ⟨Is.mono, Is.mono, Is.mono, Is.mono, TabF.mono, TabF.mono, RowF.mono, Is.mono, RowF.mono, trivial⟩) ⟨?_, ?_, ?_, ?_, ?_, ?_, ?_, ?_, ?_, trivial⟩ ?_
  · refine opF_step ?_
    intro ys l0 h0 w' hr hf K hK
    clear hf
    obtain ⟨j0, j1, j2, j3⟩ := HKC.out w' ((Ext.refl W).drew.trans hr)
    simp only [fill, Act.put, dstO, List.take_succ_cons, List.take_zero, List.setIfInBounds_toArray, List.set_cons_zero, List.set_cons_succ, List.getElem?_cons_zero, Nat.zero_add, Nat.reduceAdd] at hK ⊢
    refine OpB.mk' ?_
    go_simp
    exact hK.out _ _ rfl (Ext.refl _)
  · refine opF_step ?_
    intro ys l0 h0 w' hr hf K hK
    clear hf
    obtain ⟨j0, j1, j2, j3⟩ := HKC.out w' ((Ext.refl W).drew.trans hr)
    simp only [fill, Act.put, dstO, List.take_succ_cons, List.take_zero, List.setIfInBounds_toArray, List.set_cons_zero, List.set_cons_succ, List.getElem?_cons_zero, List.getElem?_cons_succ, Nat.zero_add, Nat.reduceAdd] at hK ⊢
    refine OpB.mk' ?_
    go_simp
    exact hK.out _ _ rfl (Ext.refl _)
  · refine opF_step ?_
    intro ys l0 h0 w' hr hf K hK
    clear hf
    simp only [fill, Act.put, dstO, List.take_succ_cons, List.take_zero, List.setIfInBounds_toArray, List.set_cons_zero, List.set_cons_succ, List.getElem?_cons_zero, List.getElem?_cons_succ, Nat.zero_add, Nat.reduceAdd] at hK ⊢
    refine OpB.mk' ?_
    go_simp
    exact hK.out _ _ rfl (Ext.refl _)
  · refine opF_step ?_
    intro ys l0 h0 w' hr hf K hK
    obtain ⟨f0, f1, -⟩ := hf
    have e0 : ys 1 = _ := f0
    have e1 : ys 2 = _ := f1
    simp only [fill, Act.put, dstO, List.take_succ_cons, List.take_zero, List.setIfInBounds_toArray, List.set_cons_zero, List.set_cons_succ, List.getElem?_cons_zero, List.getElem?_cons_succ, Nat.zero_add, Nat.reduceAdd] at hK ⊢
    simp only [e0, e1] at hK ⊢
    clear e0 e1 f0 f1
    refine OpB.mk' ?_
    go_simp
    refine (HIS.out w' ((Ext.refl W).drew.trans hr)).mono ?_
    rintro e w2 ⟨rfl, hE2⟩
    exact hK.out _ _ rfl hE2
  · refine opF_step ?_
    intro ys l0 h0 w' hr hf K hK
    obtain ⟨f0, f1, -⟩ := hf
    have e0 : ys 0 = _ := f0
    have e1 : ys 3 = _ := f1
    simp only [fill, Act.put, dstO, List.take_succ_cons, List.take_zero, List.setIfInBounds_toArray, List.set_cons_zero, List.set_cons_succ, List.getElem?_cons_zero, List.getElem?_cons_succ, Nat.zero_add, Nat.reduceAdd] at hK ⊢
    simp only [e0, e1] at hK ⊢
    clear e0 e1 f0 f1
    refine OpB.mk' ?_
    go_simp
    refine (HAK.out w' ((Ext.refl W).drew.trans hr)).mono ?_
    rintro e w2 ⟨u, vs, rfl, hR, hE2, hcp⟩
    exact hK.out _ _ ⟨u, vs, rfl, hR.base (Ext.size ((Ext.refl W).drew.trans hr)), hcp⟩ hE2
  · refine opF_step ?_
    intro ys l0 h0 w' hr hf K hK
    obtain ⟨f0, -⟩ := hf
    obtain ⟨u, vs, e0, hR, hcp⟩ := f0
    simp only [fill, Act.put, dstO, List.take_succ_cons, List.take_zero, List.setIfInBounds_toArray, List.set_cons_zero, List.set_cons_succ, List.getElem?_cons_zero, List.getElem?_cons_succ, Nat.zero_add, Nat.reduceAdd] at hK ⊢
    simp only [e0] at hK ⊢
    clear e0
    refine OpB.mk' ?_
    go_simp
    exact hK.out _ _ ⟨u, vs, rfl, hR, hcp⟩ (Ext.refl _)
  · refine opF_step ?_
    intro ys l0 h0 w' hr hf K hK
    obtain ⟨f0, -⟩ := hf
    obtain ⟨u, vs, e0, hR, hcp⟩ := f0
    simp only [fill, Act.put, dstO, List.take_succ_cons, List.take_zero, List.setIfInBounds_toArray, List.set_cons_zero, List.set_cons_succ, List.getElem?_cons_zero, List.getElem?_cons_succ, Nat.zero_add, Nat.reduceAdd] at hK ⊢
    simp only [e0] at hK ⊢
    clear e0
    refine OpB.mk' ?_
    go_simp
    exact hK.out _ _ ⟨vs, hR, hcp⟩ (Ext.refl _)
  · refine opF_step ?_
    intro ys l0 h0 w' hr hf K hK
    obtain ⟨f0, -⟩ := hf
    obtain ⟨u, vs, e0, hR, hcp⟩ := f0
    simp only [fill, Act.put, dstO, List.take_succ_cons, List.take_zero, List.setIfInBounds_toArray, List.set_cons_zero, List.set_cons_succ, List.getElem?_cons_zero, List.getElem?_cons_succ, Nat.zero_add, Nat.reduceAdd] at hK ⊢
    simp only [e0] at hK ⊢
    clear e0
    refine OpB.mk' ?_
    go_simp
    exact hK.out _ _ rfl (Ext.refl _)
  · refine opF_step ?_
    intro ys l0 h0 w' hr hf K hK
    obtain ⟨f0, -⟩ := hf
    simp only [fill, Act.put, dstO, List.take_succ_cons, List.take_zero, List.setIfInBounds_toArray, List.set_cons_zero, List.set_cons_succ, List.getElem?_cons_zero, List.getElem?_cons_succ, Nat.zero_add, Nat.reduceAdd] at hK ⊢
    refine OpB.mk' ?_
    go_simp
    exact hK.out _ _ f0 (Ext.refl _)
  intro ys l0 h0 w2 hr hf hsp
  obtain ⟨f8, f7, -⟩ := hf
  obtain ⟨vs, hR, hcp⟩ := f8
  have e7 : ys 7 = _ := f7
  simp only [fill, Act.put, List.take_succ_cons, List.take_zero, List.setIfInBounds_toArray, List.set_cons_zero, List.set_cons_succ, Nat.zero_add, Nat.reduceAdd, List.drop_succ_cons, List.drop_zero]
  rw [e7]
  clear e7 f7
  generalize ys 8 = u at hR ⊢
  clear hsp
  have hEW : Ext W w2 := (Ext.refl W).drew.trans hr
  have HR := Lib.hid hR
  have HCP := Lib.hid hcp
  have HEW := Lib.hid hEW
  obtain ⟨qt, ct, rfl, hLT⟩ := hR.lists
  have HLT := Lib.hid hLT
  clear hr hEW hR hcp hLT HAK
  by_cases hz0 : z = 0
  case neg =>
    have hg : (z == 0) = false := by simpa using hz0
    have HZ := Lib.hid (show errF C n = z from by unfold errF; rw [← HB.out, HTZ.out.2])
    have HNA := Lib.hid (show nextTA C n = 0 ∧ nextTE C n = z from ⟨by unfold nextTA; rw [HZ.out, okN_ne hz0], by unfold nextTE; rw [HZ.out, if_neg hz0]⟩)
    clear hz0
    go_wp2
    go_ret2
    exact RetE.fin (HE.out.trans HEW.out) (by rw [HNA.out.1, HNA.out.2]; rfl)
  subst hz0
  obtain ⟨hC, hbt, hso⟩ := errC_0 HTZ.out.2.symm
  have hTC : T = tabC C := by rw [HTZ.out.1, askT_0 HTZ.out.2.symm]
  have htl : T.length = C.meters.length := by rw [hTC, tabC_len]
  obtain ⟨h0, h1⟩ := isFB_iff.1 (HB.out.symm.trans hbt)
  have hG : TabG T := by rw [hTC]; exact tabC_ok hC hso
  have hn6 := hG.len
  have HZ := Lib.hid (show errF C n = 0 from by unfold errF; rw [← HB.out, ← HTZ.out.2])
  have HNA := Lib.hid (show nextTA C n = (if (nxTo T n T.length).1 < 0 then 0 else (nxTo T n T.length).1) ∧ nextTE C n = (if (nxTo T n T.length).1 < 0 then 3 else 0) from ⟨by unfold nextTA; rw [HZ.out, okN_0 rfl, htl, hTC], by unfold nextTE; rw [HZ.out, if_pos rfl, htl, hTC]⟩)
  obtain ⟨gt, rfl, hgB, hgl, hPI⟩ := pin_of HR.out HCP.out rfl (by omega)
  have HG := Lib.hid hG
  have HPI := Lib.hid hPI
  have HGB := Lib.hid hgB
  have hbd := fun k (hk : k ≤ T.length) => nxTo_bd (f := n) hn6 k hk
  have HBD := Lib.hid hbd
  clear hC hbt hso hTC htl h0 h1 hG hgB hgl hPI hbd
  go_wp2
  go_loopw [8, 9, 27] (fun x y i wr => ∃ j : Nat, j ≤ T.length ∧ i = .int .i64 j ∧ x = .int .i64 (nxTo T n j).1 ∧ y = .int .i64 (nxTo T n j).2 ∧ PinAt wr W.heap.size gt T.length ct T ∧ Ups gt w2 wr) (fun _ _ i _ => T.length - (intOf i).toNat)
  case atStart => exact ⟨0, Nat.zero_le _, rfl, rfl, rfl, HPI.out, Ups.refl _ _⟩
  case round =>
    obtain ⟨j, hj, rfl, rfl, rfl, hP, hU⟩ := hrel
    obtain ⟨wo, rfl⟩ : ∃ wo, wo = wr := ⟨_, rfl⟩
    have hb := HBD.out j hj
    have HP := Lib.hid hP
    have HU := Lib.hid hU
    by_cases hlt : j < T.length
    · have hlt' : (j : Int) < (T.length : Int) := by omega
      obtain ⟨p1, c1, hcl, hcc, hni, hfz⟩ := hP.row hlt
      have hnx := nxTo_succ T n j
      unfold nxStep at hnx
      have hmb := fun k (hk : k ≤ (rowT T j).length) => mostT_bd T n j k hk
      have hms := fun k (hk : k < (rowT T j).length) => mostT_succ T n j hk
      have hll : (rowT T j).length ≤ 2000 := by rw [rowT_get hlt]; exact HG.out.ls _ (List.getElem_mem hlt)
      obtain ⟨bst, hbst⟩ : ∃ x, x = (nxTo T n j).1 := ⟨_, rfl⟩
      obtain ⟨lst, hlst⟩ : ∃ x, x = (nxTo T n j).2 := ⟨_, rfl⟩
      have hpe : nxTo T n j = (bst, lst) := Prod.ext hbst.symm hlst.symm
      rw [hpe] at hnx
      rw [← hbst, ← hlst] at hb ⊢
      have hTset : T.set j (rowT T j) = T := by rw [rowT_get hlt]; exact List.set_getElem_self hlt
      obtain ⟨l, hl⟩ : ∃ l, l = rowT T j := ⟨_, rfl⟩
      rw [← hl] at hcl hcc hni hnx hmb hms hll hTset
      obtain ⟨ln, hln⟩ : ∃ ln, ln = l.length := ⟨_, rfl⟩
      rw [← hln] at hcl hcc hnx hmb hll
      have HNX := Lib.hid hnx
      have HMB := Lib.hid hmb
      have HMS := Lib.hid hms
      have HNI := Lib.hid hni
      have HTS := Lib.hid hTset
      have HLN : EqS ln l.length := ⟨hln⟩
      clear hnx hmb hms hni hTset hln hl hbst hlst hpe hP hU
      by_cases h2 : ln < 2
      · have h2' : (ln : Int) < 2 := by omega
        have HN2 := Lib.hid (show nxTo T n (j + 1) = (bst, lst) from by rw [HNX.out, if_pos h2])
        go_wp2
        go_roundw
        case rel => exact ⟨j + 1, by omega, by simp, by rw [HN2.out], by rw [HN2.out], HP.out, HU.out⟩
        case measure => simp [intOf]; omega
      · have h2' : ¬(ln : Int) < 2 := by omega
        have HN2 := Lib.hid (show nxTo T n (j + 1) = if bst < 0 ∨ mostT T n j ln < lst then ((j : Int), mostT T n j ln) else (bst, lst) from by rw [HNX.out, if_neg h2])
        have HCF := Lib.hid (⟨hcc, hfz⟩ : wo.cell? ⟨gt, j, none⟩ = some (.slice p1 ln c1) ∧ wo.frozen? ⟨gt, j, none⟩ = false)
        clear HNX
        go_wp2
        go_loopw [12, 37] (fun x i w3 => ∃ k : Nat, k ≤ ln ∧ i = .int .i64 k ∧ x = .int .i64 (mostT T n j k) ∧ ∃ r, PinAt w3 W.heap.size gt T.length ct (T.set j r) ∧ Ups gt wo w3) (fun _ i _ => ln - (intOf i).toNat)
        case atStart => exact ⟨0, Nat.zero_le _, rfl, rfl, l, by rw [HTS.out]; exact HP.out, Ups.refl _ _⟩
        case round =>
          obtain ⟨k, hk, rfl, rfl, r, hP, hU⟩ := hrel
          have hmk := HMB.out k hk
          by_cases hkl : k < ln
          · have hkl' : (k : Int) < (ln : Int) := by omega
            have hmk1 := HMB.out (k + 1) (by omega)
            have hms := HMS.out k (by have := HLN.out; omega)
            obtain ⟨b1, o1, rfl, hne, hck⟩ := HNI.out k (by have := HLN.out; omega)
            obtain ⟨pz, cz, -, hcc2, -, hfz2⟩ := hP.row hlt
            obtain ⟨vz, hvz⟩ : ∃ v, v = Value.slice pz (rowT (T.set j r) j).length cz := ⟨_, rfl⟩
            rw [← hvz] at hcc2
            clear hvz
            have hni1 : IntsNe (some gt) wr (some ⟨b1, o1 + k, none⟩) [l[k]'(by have := HLN.out; omega)] := by
              intro i hi
              obtain rfl : i = 0 := by simpa using hi
              exact ⟨b1, o1 + k, rfl, hne, by rw [Nat.add_zero]; exact hU.cell hck (fun e => hne (by rw [e]))⟩
            obtain ⟨x, hx⟩ : ∃ x, x = l[k]'(by have := HLN.out; omega) := ⟨_, rfl⟩
            rw [← hx] at hni1 hms
            have hset := fun cc (hcc : 1 ≤ cc) => hP.set hlt (r := [x]) (c := cc) hni1 hcc
            rw [List.set_set] at hset
            have hop := fun y (h : ListsAt y (some ⟨gt, 0, none⟩) (pinT T j x)) => open06 (pinT T j x) (pin_ok HG.out.ok j x) (fun l hl => by
              rcases List.mem_or_eq_of_mem_set hl with h | h
              · exact HG.out.ls l h
              · subst h; simp) (by unfold pinT; rw [List.length_set]; exact hn6) n (some ⟨gt, 0, none⟩) ct y h
            have hpl : (pinT T j x).length = T.length := by unfold pinT; rw [List.length_set]
            rw [hpl] at hop
            obtain ⟨mk, hmk'⟩ : ∃ m, m = mostT T n j k := ⟨_, rfl⟩
            obtain ⟨mk1, hmk1'⟩ : ∃ m, m = mostT T n j (k + 1) := ⟨_, rfl⟩
            rw [← hmk', ← hmk1'] at hms
            rw [← hmk'] at hmk ⊢
            obtain ⟨on, hon⟩ : ∃ m : Nat, m = openN (pinT T j x) n := ⟨_, rfl⟩
            rw [← hon] at hop hms
            have HMX := Lib.hid (show (if mk < (on : Int) then (on : Int) else mk) = mostT T n j (k + 1) from by rw [← hmk1', hms]; split <;> omega)
            have HOP := Lib.hid hop
            have HSE := Lib.hid hset
            have HU2 := Lib.hid hU
            have hk1 : (k : Int) + 1 ≤ (c1 : Int) := by omega
            have hk0 : (k : Int) ≤ (k : Int) + 1 := by omega
            have hwk : IntKind.i64.wrap ((k : Int) + 1) = (k : Int) + 1 := IntWalk.i64_in _ (by omega)
            have htn : ((k : Int) + 1).toNat = k + 1 := by omega
            clear hni1 hset hop hpl hmk' hmk1' hon hms hP hU hx hck hne hcc hfz hmk1
            go_upto_region 14 with (fail)
            have hc1 : 1 ≤ c1 - k := by omega
            obtain ⟨W5, hW5⟩ : ∃ W5, W5 = wr.setCell ⟨gt, j, none⟩ (.slice (some ⟨b1, o1 + k, none⟩) 1 (c1 - k)) := ⟨_, rfl⟩
            have hP5 : PinAt W5 W.heap.size gt T.length ct (pinT T j x) := by rw [hW5]; exact HSE.out _ hc1
            have hU5 : Ups gt wo W5 := by rw [hW5]; exact HU2.out.setCell _ _
            rw [← hW5]
            have HP5 := Lib.hid hP5
            have HU5 := Lib.hid hU5
            have HOP5 := Lib.hid (HOP.out W5 hP5.lists)
            clear hW5 hP5 hU5 hc1 hcc2 hfz2 hcl HSE HOP
            go_wp2_with (go_at_call 40; refine HOP5.out.mono ?_; rintro e w6 ⟨rfl, hE6⟩)
            refine ⟨⟨k + 1, by omega, by simp, by rw [HMX.out], _, HP5.out.ext hE6, HU5.out.trans (Ups.ext hE6)⟩, by simp [intOf]; omega⟩
          · obtain rfl : k = ln := by omega
            have hge : ¬(k : Int) < (k : Int) := by omega
            obtain ⟨pz, cz, -, hcc2, -, hfz2⟩ := hP.row hlt
            obtain ⟨vz, hvz⟩ : ∃ v, v = Value.slice pz (rowT (T.set j r) j).length cz := ⟨_, rfl⟩
            rw [← hvz] at hcc2
            clear hvz hcc hfz
            have hset := hP.set hlt (r := l) (c := c1) (HNI.out.ups hU) (by have := HLN.out; omega)
            rw [List.set_set, HTS.out, ← HLN.out] at hset
            have HSE := Lib.hid hset
            have HU2 := Lib.hid (HU.out.trans hU)
            obtain ⟨mo, hmo⟩ : ∃ m, m = mostT T n j k := ⟨_, rfl⟩
            rw [← hmo] at hmk HN2 ⊢
            clear hP hU hset hmo hkl hk
            by_cases c0 : bst < 0
            · have HN3 := Lib.hid (show nxTo T n (j + 1) = ((j : Int), mo) from by rw [HN2.out, if_pos (Or.inl c0)])
              clear HN2
              go_wp2
              go_roundw
              case rel => exact ⟨j + 1, by omega, by simp, by rw [HN3.out], by rw [HN3.out], HSE.out, HU2.out.setCell _ _⟩
              case measure => simp [intOf]; omega
            · by_cases c2 : mo < lst
              · have HN3 := Lib.hid (show nxTo T n (j + 1) = ((j : Int), mo) from by rw [HN2.out, if_pos (Or.inr c2)])
                clear HN2
                go_wp2
                go_roundw
                case rel => exact ⟨j + 1, by omega, by simp, by rw [HN3.out], by rw [HN3.out], HSE.out, HU2.out.setCell _ _⟩
                case measure => simp [intOf]; omega
              · have HN3 := Lib.hid (show nxTo T n (j + 1) = (bst, lst) from by rw [HN2.out, if_neg (fun h => h.elim c0 c2)])
                clear HN2
                go_wp2
                go_roundw
                case rel => exact ⟨j + 1, by omega, by simp, by rw [HN3.out], by rw [HN3.out], HSE.out, HU2.out.setCell _ _⟩
                case measure => simp [intOf]; omega
    · obtain rfl : j = T.length := by omega
      have hge : ¬(T.length : Int) < (T.length : Int) := by omega
      obtain ⟨bst, hbst⟩ : ∃ x, x = (nxTo T n T.length).1 := ⟨_, rfl⟩
      rw [← hbst] at hb HNA ⊢
      have HEZ := Lib.hid (HE.out.trans (HEW.out.ups HU.out HGB.out))
      clear hbst hP hU hlt
      by_cases c0 : bst < 0
      · rw [if_pos c0, if_pos c0] at HNA
        go_wp2
        go_ret2
        exact RetE.fin HEZ.out (by rw [HNA.out.1, HNA.out.2]; rfl)
      · rw [if_neg c0, if_neg c0] at HNA
        go_wp2
        go_ret2
        exact RetE.fin HEZ.out (by rw [HNA.out.1, HNA.out.2]; rfl)
end Go.Proofs.YtaoamnhchidjfaaDoor
