
/- The walk of TopHits. -/
import Derived.Test.YtppncdbhebgcaaaGreatDoorH1a
import Derived.Test.YtppncdbhebgcaaaGreatDoorOpY
namespace Go.Proofs.YtppncdbhebgcaaaGreatDoor
open Go.RowKit

theorem grow_ne {r1 r2 : Option Nat} {g4 n cap B H : Nat} (hor : r1 = some g4 ∨ g4 = H) (hH : B ≤ H) (hr : ∀ y, r2 = some y → y < B) (hne : ∀ y, r1 = some y → ¬r2 = some y) : (Value.slice (some ⟨g4, 0, none⟩) n cap).ownBlock ≠ r2 := by
  intro e
  have e' : r2 = some g4 := e.symm
  rcases hor with h | h
  · exact hne g4 h e'
  · have := hr g4 e'; omega
set_option maxRecDepth 20000 in
set_option maxHeartbeats 16000000 in
theorem TopHits06 (v : Value) (T : TrayD) (f : Int) (w : World) (hv : TyV w v T) (hwf : (Lit.int .i64 f).wf = true) (hT : TabW w) :
    Calls Tryz.prog 4 #[v, .int .i64 f] w (RetE (.bool true) w) := by
  have HWF := Lib.hid hwf
  have HT := Lib.hid hT
  have HTV := Lib.hid (fun y (h : Ext w y) => hv.ext h)
  obtain ⟨p, c, q, d, rfl, hp, hq⟩ := hv
  obtain ⟨n, hn⟩ : ∃ n, n = T.recs.length := ⟨_, rfl⟩
  have HN := Lib.hid hn
  rw [← hn] at HTV ⊢
  clear hwf hT hp hq hn
  go_enter Tryz.func4, Tryz.ntmps4
  go_upto_region 1 with (fail)
  obtain ⟨s0, hs0⟩ : ∃ s0, s0 = w.heap.size := ⟨_, rfl⟩
  obtain ⟨W, hW⟩ : ∃ W, W = w.alloc (.cells #[.slice p n c, .int .i64 T.at_, .int .i64 T.way, .int .i64 T.step, .slice q T.prs.length d] 47) := ⟨_, rfl⟩
  have m0 : W.heap[s0]? = some (.cells #[.slice p n c, .int .i64 T.at_, .int .i64 T.way, .int .i64 T.step, .slice q T.prs.length d] 47) := by rw [hs0, hW]; exact heap_new _ _
  have hE : Ext w W := by rw [hW]; exact Ext.alloc (Ext.refl _) _
  rw [← hs0, ← hW]
  have a0 := ExtW.cell (v := .slice p n c) (cell_of_heap m0 0)
  have a1 := ExtW.cell (v := .int .i64 T.at_) (cell_of_heap m0 1)
  have a2 := ExtW.cell (v := .int .i64 T.way) (cell_of_heap m0 2)
  have a3 := ExtW.cell (v := .int .i64 T.step) (cell_of_heap m0 3)
  have a4 := ExtW.cell (v := .slice q T.prs.length d) (cell_of_heap m0 4)
  have HE := Lib.hid hE
  have HVW := Lib.hid (fun y (h : Ext W y) => HTV.out y (hE.trans h))
  have HTW := Lib.hid (HT.out.ext hE)
  have HCD := Lib.hid (fun x : ExtW W => ExtW.callX (x := x) (charted07 x.w (HTW.out.ext x.h)))
  obtain ⟨fr, hfr⟩ : ∃ fr, fr = (decide (40 < T.recs.length) || decide (40 < T.prs.length)) := ⟨_, rfl⟩
  have HFA := Lib.hid (fun x : ExtW W => ExtW.callX (v := .bool fr) (x := x) (by
    have h := far02 T _ x.w (HVW.out _ x.h)
    rw [← hfr] at h
    exact h))
  obtain ⟨y0, hy0⟩ := ExtW.of (Ext.refl W)
  clear hW m0 hE hs0
  conv => arg 5; rw [hy0]
  clear hy0
  cases fr
  case true =>
    clear hfr
    go_wp2_with (first | (go_at_call 15; refine (HCD.out _).mono ?_; rintro e w2 ⟨rfl, xc, rfl, -⟩) | (go_at_call 13; refine (HFA.out _).mono ?_; rintro e w2 ⟨rfl, xf, rfl, -⟩) | (go_at_call 14; refine (HCK.out _).mono ?_; rintro e w2 ⟨rfl, xk, rfl, -⟩))
    go_ret
    exact RetE.fin (HE.out.trans xc.h) rfl
  obtain ⟨hl1, hl2⟩ : T.recs.length ≤ 40 ∧ T.prs.length ≤ 40 := by simpa using hfr.symm
  clear hfr
  obtain ⟨ck, hck⟩ : ∃ ck, ck = chkY T := ⟨_, rfl⟩
  have HCK := Lib.hid (fun x : ExtW W => ExtW.callX (v := .int .i64 ck) (x := x) (by
    have h := rCheck02 T _ x.w (HVW.out _ x.h) (by omega) (by omega)
    rw [← hck] at h
    exact h))
  have hk2 : ck = 0 ∧ okY T = true ∨ ck = 20 := by
    unfold chkY at hck
    split at hck
    · rename_i h; exact Or.inl ⟨hck, h⟩
    · exact Or.inr hck
  clear hck hl1 hl2
  rcases hk2 with ⟨rfl, hok⟩ | rfl
  case inr =>
    go_wp2_with (first | (go_at_call 15; refine (HCD.out _).mono ?_; rintro e w2 ⟨rfl, xc, rfl, -⟩) | (go_at_call 13; refine (HFA.out _).mono ?_; rintro e w2 ⟨rfl, xf, rfl, -⟩) | (go_at_call 14; refine (HCK.out _).mono ?_; rintro e w2 ⟨rfl, xk, rfl, -⟩))
    go_ret
    exact RetE.fin (HE.out.trans xc.h) rfl
  have hY := okY_is hok
  have hn6 : ¬(6 : Int) < (n : Int) := by have := hY.n6; have := HN.out; omega
  have hn6' : n ≤ 6 := by have := hY.n6; have := HN.out; omega
  have HY := Lib.hid hY
  clear hok hY
  by_cases hf1 : f < 1
  case pos =>
    go_wp2_with (first | (go_at_call 15; refine (HCD.out _).mono ?_; rintro e w2 ⟨rfl, xc, rfl, -⟩) | (go_at_call 13; refine (HFA.out _).mono ?_; rintro e w2 ⟨rfl, xf, rfl, -⟩) | (go_at_call 14; refine (HCK.out _).mono ?_; rintro e w2 ⟨rfl, xk, rfl, -⟩))
    go_ret
    exact RetE.fin (HE.out.trans xc.h) rfl
  by_cases hf2 : (n : Int) < f
  case pos =>
    go_wp2_with (first | (go_at_call 15; refine (HCD.out _).mono ?_; rintro e w2 ⟨rfl, xc, rfl, -⟩) | (go_at_call 13; refine (HFA.out _).mono ?_; rintro e w2 ⟨rfl, xf, rfl, -⟩) | (go_at_call 14; refine (HCK.out _).mono ?_; rintro e w2 ⟨rfl, xk, rfl, -⟩))
    go_ret
    exact RetE.fin (HE.out.trans xc.h) rfl
  obtain ⟨m, rfl⟩ : ∃ m : Nat, f = m := ⟨f.toNat, by omega⟩
  have hm1 : 1 ≤ m := by omega
  have hm2 : m ≤ n := by omega
  go_upto_region 4 with (first
    | (go_at_call 13; refine (HFA.out _).mono ?_; rintro e w2 ⟨rfl, xf, rfl, -⟩)
    | (go_at_call 14; refine (HCK.out _).mono ?_; rintro e w2 ⟨rfl, xk, rfl, -⟩)
    | (go_at_call 16; refine (often02 HY.out (HVW.out _ xk.h)).mono ?_; rintro e W3 ⟨qs, g, hq1, hq2, rfl, hE3, hO3⟩))
  rw [← HN.out] at hO3 ⊢
  obtain ⟨L, hL⟩ : ∃ L, L = cntY n (playsC T qs) := ⟨_, rfl⟩
  have hpl := (plays_le HY.out hq1).1
  have hnp := HY.out.np
  have hLn : L.length = n := by rw [hL]; exact cntY_len _ _
  have hLb : ∀ x ∈ L, 0 ≤ x ∧ x ≤ 40 := fun x hx => by
    subst hL
    obtain ⟨i, hi, rfl⟩ := List.getElem_of_mem hx
    have := cntY_le hi
    omega
  rw [← hL] at hO3
  have HL : EqS L.length n := ⟨hLn⟩
  have HLB := Lib.hid hLb
  have HO3 := Lib.hid hO3
  have HE3 := Lib.hid (xk.h.trans hE3)
  have hg3 : g < W3.heap.size := (hO3.lt g rfl).2
  clear hL hpl hnp hLn hLb hO3 hE3 hq1 hq2 HFA HCK HVW
  go_upto_region 7 with (fail)
  obtain ⟨b, hb⟩ : ∃ b, b = W3.heap.size := ⟨_, rfl⟩
  obtain ⟨W4, hW4⟩ : ∃ W4, W4 = W3.alloc (.cells #[.slice none 0 0, .slice none 0 0, .int .i64 0, .int .i64 1] 25) := ⟨_, rfl⟩
  have m4 : W4.heap[b]? = some (.cells #[.slice none 0 0, .slice none 0 0, .int .i64 0, .int .i64 1] 25) := by rw [hW4, hb]; exact heap_new _ _
  have hE4 : Ext W3 W4 := by rw [hW4]; exact Ext.alloc (Ext.refl _) _
  rw [← hb, ← hW4]
  rw [← hb] at hg3
  have HB := Lib.hid hb
  have HM4 := Lib.hid m4
  have HE4 := Lib.hid hE4
  clear hW4 m4 hE4 hb
  obtain ⟨i0, hi, hz0, hz1, hz2⟩ := info_parts info_mt
  have HI0 := Lib.hid (⟨hi, hz0, hz1, hz2⟩ : _ ∧ _ ∧ _ ∧ _)
  clear hi hz0 hz1 hz2
  obtain ⟨i1, hi, hz0, hz1, hz2⟩ := info_parts info_a
  have HI1 := Lib.hid (⟨hi, hz0, hz1, hz2⟩ : _ ∧ _ ∧ _ ∧ _)
  clear hi hz0 hz1 hz2
  go_wp2
  go_loopw [8] (fun a wr => ∃ k : Nat, k ≤ n ∧ a = .int .i64 k ∧ ∃ vM vX vs, Ext W3 wr ∧ wr.heap[b]? = some (.cells #[vM, vX, .int .i64 0, .int .i64 1] 25) ∧ HitR wr (b + 1) vM vs (L.take k) ∧ wr.ownsRow (b + 1) 3 1 vX k (intVs (List.replicate k 0))) (fun a _ => n - (intOf a).toNat)
  case atStart => exact ⟨0, Nat.zero_le _, rfl, _, _, [], HE4.out, HM4.out, HitR.nil _ _, World.ownsRow_nil _ _ _ _⟩
  case round =>
    obtain ⟨k, hk, rfl, vM, vX, vs, hE, hm, hR, hX⟩ := hrel
    by_cases hlt : k < n
    · have hlt' : (k : Int) < (n : Int) := by omega
      have hkl : k < L.length := by have := HL.out; omega
      obtain ⟨x, hx⟩ : ∃ x, x = L[k] := ⟨_, rfl⟩
      have htk : L.take (k + 1) = L.take k ++ [x] := by rw [hx]; exact (List.take_append_getElem hkl).symm
      have hlen : (L.take k).length = k := by rw [List.length_take]; omega
      have hrb : ∀ y, vM.ownBlock = some y ∨ vX.ownBlock = some y → b + 1 ≤ y ∧ y < wr.heap.size := fun y hy => hy.elim (fun h => own_lt hR.out y h) (fun h => own_lt hX y h)
      have hbs := HB.out
      have hcg : ∀ y, Ext W3 y → y.cell? ⟨g, k, none⟩ = some (.int .i64 x) := fun y hy => by
        obtain ⟨b', cc, he, hc⟩ := ownsRow_at HO3.out k hlt
        cases he
        refine hy.cell (hc.trans ?_)
        rw [intVs_get hkl, hx]
      have HKC := Lib.hid (fun y (h : Gr2 vM.ownBlock vX.ownBlock wr y) => (by
        have h2 := h.keep hm (own_not hR.out hm (by decide)) (own_not hX hm (by decide))
        exact ⟨cell_of_heap h2 0, cell_of_heap h2 1, hcg y (h.low hE fun z hz => by have := hrb z hz; omega)⟩ :
        y.cell? ⟨b, 0, none⟩ = some vM ∧ y.cell? ⟨b, 1, none⟩ = some vX ∧ y.cell? ⟨g, k, none⟩ = some (.int .i64 x)))
      have HKM := Lib.hid (fun y (h : Gr2 vM.ownBlock vX.ownBlock wr y) => (⟨h.keep hm (own_not hR.out hm (by decide)) (own_not hX hm (by decide)), h.low hE fun z hz => by have := hrb z hz; omega⟩ : y.heap[b]? = some (.cells #[vM, vX, .int .i64 0, .int .i64 1] 25) ∧ Ext W3 y))
      have HRB := Lib.hid (fun y hy => (hrb y hy).2)
      have HNE := Lib.hid (own_ne2 hR.out hX (by decide))
      have HHR := Lib.hid (by have := hR.out; rw [hlen] at this; exact this)
      have HHT := Lib.hid hR
      have HOX := Lib.hid hX
      have HTK := Lib.hid htk
      have HLE := Lib.hid hlen
      have hbw : b < wr.heap.size := (Array.getElem?_eq_some_iff.1 hm).1
      have hk6 : k ≤ 6 := by omega
      clear hE hm hR hX hx htk hlen hrb hcg hkl hbs
      go_upto_region 10 with (fail)
      refine wp_region_facts3 20 [[], [0], [], [], [2, 3], [4], [], [], [6, 7], [8], [5, 9], [10], [11], [12], [1, 13], [], [15], [], [16, 17], []] [14, 18, 19] 14 18 [] [] (GrB vX.ownBlock) (GrB vM.ownBlock) (Gr2 vM.ownBlock vX.ownBlock) (StH 14 18 vM.ownBlock vX.ownBlock) (FL [Is (.pointer (some ⟨b, 0, none⟩)), Is (vM), Is (.slice (some ⟨g, 0, none⟩) n n), Is (.int .i64 k), Is (.pointer (some ⟨g, k, none⟩)), Is (.int .i64 x), Is (.slice (some ⟨g, 0, none⟩) n n), Is (.int .i64 k), Is (.pointer (some ⟨g, k, none⟩)), Is (.int .i64 x), Is (.agg #[.int .i64 x, .int .i64 x]), MtA wr.heap.size x, MtB wr.heap.size x, MtC wr.heap.size x, MtD vX.ownBlock wr.heap.size (b + 1) k vs x, Is (.pointer (some ⟨b, 1, none⟩)), Is (vX), OneN wr.heap.size [.int .i64 0] 3, MtE vM.ownBlock (b + 1) k (intVs (List.replicate k 0)), Is (.pointer (some ⟨b, 0, none⟩))]) (by kernel_rfl) (by kernel_rfl) (by kernel_rfl) (by kernel_rfl) StH.all StH.one StH.two (fun _ _ _ => GrB.trans) (fun _ _ _ => GrB.trans) (GrB.refl _) (GrB.refl _) (Gr2.refl _ _) (fun _ _ _ => Gr2.trans) (fun _ _ h => h.size) ?_ ⟨?_, ?_, ?_, ?_, ?_, ?_, ?_, ?_, ?_, ?_, ?_, ?_, ?_, ?_, ?_, ?_, ?_, ?_, ?_, ?_, trivial⟩ ?_
      · intro i j v s t w w' hj hst
        match j, hj with
        | 0, _ => exact fun h => h
        | 1, _ => exact fun h => h
        | 2, _ => exact fun h => h
        | 3, _ => exact fun h => h
        | 4, _ => exact fun h => h
        | 5, _ => exact fun h => h
        | 6, _ => exact fun h => h
        | 7, _ => exact fun h => h
        | 8, _ => exact fun h => h
        | 9, _ => exact fun h => h
        | 10, _ => exact fun h => h
        | 11, _ => exact fun h => MtA.gr2 (s := s) (t := t) HRB.out h (StH.all _ _ _ hst)
        | 12, _ => exact fun h => MtB.gr2 (s := s) (t := t) HRB.out h (StH.all _ _ _ hst)
        | 13, _ => exact fun h => MtC.gr2 (s := s) (t := t) HRB.out h (StH.all _ _ _ hst)
        | 14, hj => exact fun h => MtD.gr (s := s) (t := t) HRB.out _ h (StH.one _ _ _ (fun e => hj e.symm) hst)
        | 15, _ => exact fun h => h
        | 16, _ => exact fun h => h
        | 17, _ => exact fun h => OneN.gr2 (s := s) (t := t) HRB.out h (StH.all _ _ _ hst)
        | 18, hj => exact fun h => MtE.gr (s := s) (t := t) HRB.out _ h (StH.two _ _ _ (fun e => hj e.symm) hst)
        | 19, _ => exact fun h => h
        | n + 20, _ => exact fun h => h
      · refine opF3_step ?_
        intro ys l0 h0 w' hr hs hs2 hf K hK
        clear hf
        clear hs hs2
        simp only [fill, Act.put, dstO, List.take_succ_cons, List.take_zero, List.setIfInBounds_toArray, List.set_cons_zero, List.set_cons_succ, List.getElem?_cons_zero, Nat.zero_add, Nat.reduceAdd] at hK ⊢
        refine OpB.mk' ?_
        go_simp
        exact hK.out _ _ rfl (StH.self rfl rfl (Ext.refl _))
      · refine opF3_step ?_
        intro ys l0 h0 w' hr hs hs2 hf K hK
        obtain ⟨f0, -⟩ := hf
        have e0 : ys 0 = _ := f0
        obtain ⟨j0, j1, j2⟩ := HKC.out w' ((Gr2.left (GrB.ext ((Ext.refl wr).drew))).trans hr)
        clear hs hs2
        simp only [fill, Act.put, dstO, List.take_succ_cons, List.take_zero, List.setIfInBounds_toArray, List.set_cons_zero, List.set_cons_succ, List.getElem?_cons_zero, List.getElem?_cons_succ, Nat.zero_add, Nat.reduceAdd] at hK ⊢
        simp only [e0] at hK ⊢
        clear e0 f0
        refine OpB.mk' ?_
        go_simp
        exact hK.out _ _ rfl (StH.self rfl rfl (Ext.refl _))
      · refine opF3_step ?_
        intro ys l0 h0 w' hr hs hs2 hf K hK
        clear hf
        clear hs hs2
        simp only [fill, Act.put, dstO, List.take_succ_cons, List.take_zero, List.setIfInBounds_toArray, List.set_cons_zero, List.set_cons_succ, List.getElem?_cons_zero, List.getElem?_cons_succ, Nat.zero_add, Nat.reduceAdd] at hK ⊢
        refine OpB.mk' ?_
        go_simp
        exact hK.out _ _ rfl (StH.self rfl rfl (Ext.refl _))
      · refine opF3_step ?_
        intro ys l0 h0 w' hr hs hs2 hf K hK
        clear hf
        clear hs hs2
        simp only [fill, Act.put, dstO, List.take_succ_cons, List.take_zero, List.setIfInBounds_toArray, List.set_cons_zero, List.set_cons_succ, List.getElem?_cons_zero, List.getElem?_cons_succ, Nat.zero_add, Nat.reduceAdd] at hK ⊢
        refine OpB.mk' ?_
        go_simp
        exact hK.out _ _ rfl (StH.self rfl rfl (Ext.refl _))
      · refine opF3_step ?_
        intro ys l0 h0 w' hr hs hs2 hf K hK
        obtain ⟨f0, f1, -⟩ := hf
        have e0 : ys 2 = _ := f0
        have e1 : ys 3 = _ := f1
        clear hs hs2
        simp only [fill, Act.put, dstO, List.take_succ_cons, List.take_zero, List.setIfInBounds_toArray, List.set_cons_zero, List.set_cons_succ, List.getElem?_cons_zero, List.getElem?_cons_succ, Nat.zero_add, Nat.reduceAdd] at hK ⊢
        simp only [e0, e1] at hK ⊢
        clear e0 e1 f0 f1
        refine OpB.mk' ?_
        go_simp
        exact hK.out _ _ rfl (StH.self rfl rfl (Ext.refl _))
      · refine opF3_step ?_
        intro ys l0 h0 w' hr hs hs2 hf K hK
        obtain ⟨f0, -⟩ := hf
        have e0 : ys 4 = _ := f0
        obtain ⟨j0, j1, j2⟩ := HKC.out w' ((Gr2.left (GrB.ext ((Ext.refl wr).drew))).trans hr)
        clear hs hs2
        simp only [fill, Act.put, dstO, List.take_succ_cons, List.take_zero, List.setIfInBounds_toArray, List.set_cons_zero, List.set_cons_succ, List.getElem?_cons_zero, List.getElem?_cons_succ, Nat.zero_add, Nat.reduceAdd] at hK ⊢
        simp only [e0] at hK ⊢
        clear e0 f0
        refine OpB.mk' ?_
        go_simp
        exact hK.out _ _ rfl (StH.self rfl rfl (Ext.refl _))
      · refine opF3_step ?_
        intro ys l0 h0 w' hr hs hs2 hf K hK
        clear hf
        clear hs hs2
        simp only [fill, Act.put, dstO, List.take_succ_cons, List.take_zero, List.setIfInBounds_toArray, List.set_cons_zero, List.set_cons_succ, List.getElem?_cons_zero, List.getElem?_cons_succ, Nat.zero_add, Nat.reduceAdd] at hK ⊢
        refine OpB.mk' ?_
        go_simp
        exact hK.out _ _ rfl (StH.self rfl rfl (Ext.refl _))
      · refine opF3_step ?_
        intro ys l0 h0 w' hr hs hs2 hf K hK
        clear hf
        clear hs hs2
        simp only [fill, Act.put, dstO, List.take_succ_cons, List.take_zero, List.setIfInBounds_toArray, List.set_cons_zero, List.set_cons_succ, List.getElem?_cons_zero, List.getElem?_cons_succ, Nat.zero_add, Nat.reduceAdd] at hK ⊢
        refine OpB.mk' ?_
        go_simp
        exact hK.out _ _ rfl (StH.self rfl rfl (Ext.refl _))
      · refine opF3_step ?_
        intro ys l0 h0 w' hr hs hs2 hf K hK
        obtain ⟨f0, f1, -⟩ := hf
        have e0 : ys 6 = _ := f0
        have e1 : ys 7 = _ := f1
        clear hs hs2
        simp only [fill, Act.put, dstO, List.take_succ_cons, List.take_zero, List.setIfInBounds_toArray, List.set_cons_zero, List.set_cons_succ, List.getElem?_cons_zero, List.getElem?_cons_succ, Nat.zero_add, Nat.reduceAdd] at hK ⊢
        simp only [e0, e1] at hK ⊢
        clear e0 e1 f0 f1
        refine OpB.mk' ?_
        go_simp
        exact hK.out _ _ rfl (StH.self rfl rfl (Ext.refl _))
      · refine opF3_step ?_
        intro ys l0 h0 w' hr hs hs2 hf K hK
        obtain ⟨f0, -⟩ := hf
        have e0 : ys 8 = _ := f0
        obtain ⟨j0, j1, j2⟩ := HKC.out w' ((Gr2.left (GrB.ext ((Ext.refl wr).drew))).trans hr)
        clear hs hs2
        simp only [fill, Act.put, dstO, List.take_succ_cons, List.take_zero, List.setIfInBounds_toArray, List.set_cons_zero, List.set_cons_succ, List.getElem?_cons_zero, List.getElem?_cons_succ, Nat.zero_add, Nat.reduceAdd] at hK ⊢
        simp only [e0] at hK ⊢
        clear e0 f0
        refine OpB.mk' ?_
        go_simp
        exact hK.out _ _ rfl (StH.self rfl rfl (Ext.refl _))
      · refine opF3_step ?_
        intro ys l0 h0 w' hr hs hs2 hf K hK
        obtain ⟨f0, f1, -⟩ := hf
        have e0 : ys 5 = _ := f0
        have e1 : ys 9 = _ := f1
        clear hs hs2
        simp only [fill, Act.put, dstO, List.take_succ_cons, List.take_zero, List.setIfInBounds_toArray, List.set_cons_zero, List.set_cons_succ, List.getElem?_cons_zero, List.getElem?_cons_succ, Nat.zero_add, Nat.reduceAdd] at hK ⊢
        simp only [e0, e1] at hK ⊢
        clear e0 e1 f0 f1
        refine OpB.mk' ?_
        go_simp
        exact hK.out _ _ rfl (StH.self rfl rfl (Ext.refl _))
      · refine opF3_step ?_
        intro ys l0 h0 w' hr hs hs2 hf K hK
        obtain ⟨f0, -⟩ := hf
        have e0 : ys 10 = _ := f0
        clear hs hs2
        simp only [fill, Act.put, dstO, List.take_succ_cons, List.take_zero, List.setIfInBounds_toArray, List.set_cons_zero, List.set_cons_succ, List.getElem?_cons_zero, List.getElem?_cons_succ, Nat.zero_add, Nat.reduceAdd] at hK ⊢
        simp only [e0] at hK ⊢
        clear e0 f0
        refine OpB.mk' ?_
        go_simp
        exact hK.out _ _ ⟨_, rfl, by have := hr.size; exact this, heap_new _ _⟩ (StH.self rfl rfl (Ext.alloc (Ext.refl _) _))
      · refine opF3_step ?_
        intro ys l0 h0 w' hr hs hs2 hf K hK
        obtain ⟨f0, -⟩ := hf
        obtain ⟨g0, e0, hB0, hg0⟩ := f0
        clear hs hs2
        simp only [fill, Act.put, dstO, List.take_succ_cons, List.take_zero, List.setIfInBounds_toArray, List.set_cons_zero, List.set_cons_succ, List.getElem?_cons_zero, List.getElem?_cons_succ, Nat.zero_add, Nat.reduceAdd] at hK ⊢
        simp only [e0] at hK ⊢
        clear e0
        refine OpB.mk' ?_
        go_simp
        exact hK.out _ _ ⟨g0, rfl, hB0, hg0⟩ (StH.self rfl rfl (Ext.refl _))
      · refine opF3_step ?_
        intro ys l0 h0 w' hr hs hs2 hf K hK
        obtain ⟨f0, -⟩ := hf
        obtain ⟨g0, e0, hB0, hg0⟩ := f0
        clear hs hs2
        simp only [fill, Act.put, dstO, List.take_succ_cons, List.take_zero, List.setIfInBounds_toArray, List.set_cons_zero, List.set_cons_succ, List.getElem?_cons_zero, List.getElem?_cons_succ, Nat.zero_add, Nat.reduceAdd] at hK ⊢
        simp only [e0] at hK ⊢
        clear e0
        refine OpB.mk' ?_
        go_simp
        exact hK.out _ _ ⟨g0, _, rfl, hB0, by have := hr.size; exact this, heap_ext3 hg0 (Ext.alloc (Ext.refl _) _), heap_new _ _⟩ (StH.self rfl rfl (Ext.alloc (Ext.refl _) _))
      · refine opF3_step ?_
        intro ys l0 h0 w' hr hs hs2 hf K hK
        obtain ⟨f0, f1, -⟩ := hf
        have e0 : ys 1 = _ := f0
        obtain ⟨g0, h1, e1, hB0, hB1, hg0, hg1⟩ := f1
        have hE0 := (GrB.ext ((Ext.refl wr).drew)).trans (hs (Or.inl rfl))
        have hsz := hr.size
        clear hs hs2
        simp only [fill, Act.put, dstO, List.take_succ_cons, List.take_zero, List.setIfInBounds_toArray, List.set_cons_zero, List.set_cons_succ, List.getElem?_cons_zero, List.getElem?_cons_succ, Nat.zero_add, Nat.reduceAdd] at hK ⊢
        simp only [e0, e1] at hK ⊢
        clear e0 e1 f0
        refine OpB.mkG rfl ?_
        refine wp_append_lies _ (.tmp 63) (.tmp 75) 22 rfl (b + 1) 55 i0 _ 3 56 Tryz.underlying22 HI0.out.1 HI0.out.2.1 HI0.out.2.2.1 HI0.out.2.2.2 rfl (by decide) _ k _ rfl (ownsRow_fr HHR.out (grown_fr hE0) fun y hy => HNE.out y hy) ⟨h1, 0, none⟩ 1 1 [.slice (some ⟨g0, 0, none⟩) 1 1, .slice none 0 0, .int .i64 0] rfl rfl (one_news2 hg1) (by intro u hu; simp at hu; rcases hu with rfl | rfl | rfl <;> rfl) (by decide) (by unfold maxLen; omega) (by omega) (by have : (wr.drew).heap.size = wr.heap.size := rfl; omega) _ rfl ?_
        intro g4 cap4 w4 ho4 hg4 hor _
        exact hK.out _ _ ⟨g0, g4, cap4, rfl, hB0, GrB.keep hg4 hg0 (fun e => by have := HRB.out g0 (Or.inl e.symm); omega), ho4, grow_ne hor (by have : (wr.drew).heap.size = wr.heap.size := rfl; omega) (fun y hy => HRB.out y (Or.inr hy)) HNE.out⟩ (StH.k1 hg4)
      · refine opF3_step ?_
        intro ys l0 h0 w' hr hs hs2 hf K hK
        clear hf
        clear hs hs2
        simp only [fill, Act.put, dstO, List.take_succ_cons, List.take_zero, List.setIfInBounds_toArray, List.set_cons_zero, List.set_cons_succ, List.getElem?_cons_zero, List.getElem?_cons_succ, Nat.zero_add, Nat.reduceAdd] at hK ⊢
        refine OpB.mk' ?_
        go_simp
        exact hK.out _ _ rfl (StH.self rfl rfl (Ext.refl _))
      · refine opF3_step ?_
        intro ys l0 h0 w' hr hs hs2 hf K hK
        obtain ⟨f0, -⟩ := hf
        have e0 : ys 15 = _ := f0
        obtain ⟨j0, j1, j2⟩ := HKC.out w' ((Gr2.left (GrB.ext ((Ext.refl wr).drew))).trans hr)
        clear hs hs2
        simp only [fill, Act.put, dstO, List.take_succ_cons, List.take_zero, List.setIfInBounds_toArray, List.set_cons_zero, List.set_cons_succ, List.getElem?_cons_zero, List.getElem?_cons_succ, Nat.zero_add, Nat.reduceAdd] at hK ⊢
        simp only [e0] at hK ⊢
        clear e0 f0
        refine OpB.mk' ?_
        go_simp
        exact hK.out _ _ rfl (StH.self rfl rfl (Ext.refl _))
      · refine opF3_step ?_
        intro ys l0 h0 w' hr hs hs2 hf K hK
        clear hf
        clear hs hs2
        simp only [fill, Act.put, dstO, List.take_succ_cons, List.take_zero, List.setIfInBounds_toArray, List.set_cons_zero, List.set_cons_succ, List.getElem?_cons_zero, List.getElem?_cons_succ, Nat.zero_add, Nat.reduceAdd] at hK ⊢
        refine OpB.mk' ?_
        go_simp
        exact hK.out _ _ ⟨_, rfl, by have := hr.size; exact this, heap_new _ _⟩ (StH.self rfl rfl (Ext.alloc (Ext.refl _) _))
      · refine opF3_step ?_
        intro ys l0 h0 w' hr hs hs2 hf K hK
        obtain ⟨f0, f1, -⟩ := hf
        have e0 : ys 16 = _ := f0
        obtain ⟨h1, e1, hB1, hg1⟩ := f1
        have hE0 := (GrB.ext ((Ext.refl wr).drew)).trans (hs2 (Or.inl rfl))
        have hsz := hr.size
        clear hs hs2
        simp only [fill, Act.put, dstO, List.take_succ_cons, List.take_zero, List.setIfInBounds_toArray, List.set_cons_zero, List.set_cons_succ, List.getElem?_cons_zero, List.getElem?_cons_succ, Nat.zero_add, Nat.reduceAdd] at hK ⊢
        simp only [e0, e1] at hK ⊢
        clear e0 e1 f0
        refine OpB.mkG rfl ?_
        refine wp_append_lies _ (.tmp 78) (.tmp 79) 23 rfl (b + 1) 3 i1 _ 1 8 Tryz.underlying23 HI1.out.1 HI1.out.2.1 HI1.out.2.2.1 HI1.out.2.2.2 rfl (by decide) _ k _ rfl (ownsRow_fr HOX.out (grown_fr hE0) fun y hy => fun e => HNE.out y e hy) ⟨h1, 0, none⟩ 1 1 [.int .i64 0] rfl rfl (one_news2 hg1) (by intro u hu; simp at hu; subst hu; rfl) (by decide) (by unfold maxLen; omega) (by omega) (by have : (wr.drew).heap.size = wr.heap.size := rfl; omega) _ rfl ?_
        intro g4 cap4 w4 ho4 hg4 hor _
        exact hK.out _ _ ⟨g4, cap4, rfl, ho4, grow_ne hor (by have : (wr.drew).heap.size = wr.heap.size := rfl; omega) (fun y hy => HRB.out y (Or.inl hy)) (fun y hy e => HNE.out y e hy)⟩ (StH.k2 rfl hg4)
      · refine opF3_step ?_
        intro ys l0 h0 w' hr hs hs2 hf K hK
        clear hf
        clear hs hs2
        simp only [fill, Act.put, dstO, List.take_succ_cons, List.take_zero, List.setIfInBounds_toArray, List.set_cons_zero, List.set_cons_succ, List.getElem?_cons_zero, List.getElem?_cons_succ, Nat.zero_add, Nat.reduceAdd] at hK ⊢
        refine OpB.mk' ?_
        go_simp
        exact hK.out _ _ rfl (StH.self rfl rfl (Ext.refl _))
      intro ys l0 h0 w2 hr hf hsp
      obtain ⟨f14, f18, f19, -⟩ := hf
      obtain ⟨g0, g4, cap4, e14, hB0, hg0, ho4, -⟩ := f14
      obtain ⟨g5, cap5, e18, ho5, -⟩ := f18
      have e19 : ys 19 = _ := f19
      simp only [fill, Act.put, List.take_succ_cons, List.take_zero, List.setIfInBounds_toArray, List.set_cons_zero, List.set_cons_succ, Nat.zero_add, Nat.reduceAdd, List.drop_succ_cons, List.drop_zero]
      rw [e19]
      clear e19 f19
      rw [e14] at ho4 ⊢
      rw [e18] at ho5 ⊢
      clear hsp
      have hG := (Gr2.left (GrB.ext ((Ext.refl wr).drew)) : Gr2 vM.ownBlock vX.ownBlock wr wr.drew).trans hr
      obtain ⟨hm2, hE2⟩ := HKM.out w2 hG
      have HG := Lib.hid hG
      have HO4 := Lib.hid ho4
      have HO5 := Lib.hid ho5
      have HG0 := Lib.hid hg0
      have HE2 := Lib.hid hE2
      have HM2 := Lib.hid hm2
      have c0 := cell_of_heap hm2 0
      have c1 := cell_of_heap hm2 1
      have f0 := cell_frozen hm2 0
      have f1 := cell_frozen hm2 1
      simp only [List.getElem?_toArray, List.getElem?_cons_zero, List.getElem?_cons_succ] at c0 c1
      clear hr hG ho4 ho5 hg0 hE2 hm2 e14 e18 HKC HKM
      go_wp2
      refine ⟨⟨k + 1, by omega, by simp, _, _, vs ++ [.slice (some ⟨g0, 0, none⟩) 1 1, .slice none 0 0, .int .i64 0], Ext.setCell (Ext.setCell HE2.out (p := ⟨b, 0, none⟩) (by have := HB.out; exact Nat.le_of_eq this.symm) _) (p := ⟨b, 1, none⟩) (by have := HB.out; exact Nat.le_of_eq this.symm) _, heap_set (heap_set HM2.out rfl) rfl, ?_, ?_⟩, by simp [intOf]; omega⟩
      · have h := HHT.out.step (g := g0) (x := x) (cap := cap4) (g' := g4) HOX.out HG.out (by rw [HLE.out]; exact HO4.out) (by omega) HG0.out
        rw [HLE.out, ← HTK.out] at h
        exact (h.off (by omega)).off (by omega)
      · rw [← rep_snoc]
        exact ownsRow_off (ownsRow_off HO5.out (by omega)) (by omega)
    · obtain rfl : k = n := by omega
      have htk : L.take k = L := List.take_of_length_le (by have := HL.out; omega)
      rw [htk] at hR
      have hch := hR.chart (by have := HL.out; rw [this]; exact hX)
      have hL6 : L.length ≤ 6 := by have := HL.out; omega
      have HCH := Lib.hid (fun y (h : Ext wr y) => hch.ext h)
      have HL6 := Lib.hid hL6
      have HER := Lib.hid (HE.out.trans (HE3.out.trans hE))
      have HSM := Lib.hid (⟨by rw [hit_len]; omega, by simp [HitC]; omega, fun M hM => by
        obtain ⟨z, -, rfl⟩ := List.mem_map.1 hM
        exact ⟨by show 1 ≤ 40; omega, by show 0 ≤ 40; omega⟩⟩ : ChSm (HitC L))
      have HTR := Lib.hid (HT.out.ext (HE.out.trans (HE3.out.trans hE)))
      have HCD := Lib.hid (fun x : ExtW wr => ExtW.callX (x := x) (charted07 x.w (HTR.out.ext x.h)))
      have hIL : IntsAt wr (some ⟨g, 0, none⟩) L := (row_ints (c := k) (by have h := HO3.out; rw [← HL.out] at h ⊢; exact h)).ext hE
      have HIL := Lib.hid hIL
      have HOR := Lib.hid (fun x : ExtW wr => ExtW.callX (v := .tuple #[.int .i64 1, .int .i64 0]) (x := x) (by
        have h := Orders06 (HitC L) _ x.w (HCH.out _ x.h) HSM.out (HTR.out.ext x.h)
        rw [hit_orders HL6.out HLB.out, hit_err HL6.out HLB.out] at h
        exact h))
      obtain ⟨O, hO⟩ : ∃ O, O = ordI L.length (xsL L) := ⟨_, rfl⟩
      obtain ⟨Q, hQ⟩ : ∃ Q, Q = topL (oneT L) m := ⟨_, rfl⟩
      have HOD := Lib.hid (fun x : ExtW wr => ExtW.callLL (l := O) (n := 0) (x := x) (by
        have h := Order06 (HitC L) _ x.w (HCH.out _ x.h) HSM.out (HTR.out.ext x.h)
        rw [hit_order HL6.out HLB.out, hit_err HL6.out HLB.out, ← hO] at h
        exact h))
      have hml : m ≤ L.length := by have := HL.out; omega
      have htop := hit_top HL6.out HLB.out hm1 hml
      rw [← hQ] at htop
      have HTP := Lib.hid (fun x : ExtW wr => ExtW.callLL (l := Q) (n := 0) (x := x) (by
        have h := Top06 (HitC L) (m : Int) _ x.w (HCH.out _ x.h) HSM.out (HTR.out.ext x.h) HWF.out
        rw [htop.1, htop.2.2] at h
        exact h))
      have HMY := Lib.hid (fun x : ExtW wr => ExtW.callLL (l := Q) (n := 0) (x := x) (by
        have h := May06 (HitC L) (m : Int) _ x.w (HCH.out _ x.h) HSM.out (HTR.out.ext x.h) HWF.out
        rw [htop.2.1, htop.2.2] at h
        exact h))
      have hol : O.length = k := by rw [hO, ordI_len]; exact HL.out
      have hql : Q.length = m := by rw [hQ]; exact top_one_len hml
      have HOL : EqS O.length k := ⟨hol⟩
      have HQL : EqS Q.length m := ⟨hql⟩
      have hoI : ((O.length : Int) != (k : Int)) = false := by simp; omega
      have hoN : (O.length != k) = false := by simp; omega
      have hqI : ((Q.length : Int) != (m : Int)) = false := by simp; omega
      have hqN : (Q.length != m) = false := by simp; omega
      have HO := Lib.hid hO
      have HQ := Lib.hid hQ
      have c0 := ExtW.cell (v := vM) (cell_of_heap hm 0)
      have c1 := ExtW.cell (v := vX) (cell_of_heap hm 1)
      have c2 := ExtW.cell (v := .int .i64 0) (cell_of_heap hm 2)
      have c3 := ExtW.cell (v := .int .i64 1) (cell_of_heap hm 3)
      obtain ⟨y1, hy1⟩ := ExtW.of (Ext.refl wr)
      clear hE hm hR hX hch hL6 htk hIL hO hQ htop hol hql hml a0 a1 a2 a3 a4 hlt
      conv => arg 5; rw [hy1]
      clear hy1
      go_upto_region 15 with (first
        | (go_at_call 17; refine (HOR.out _).mono ?_; rintro e _ ⟨rfl, x1, rfl, -⟩)
        | (go_at_call 18; refine (HOD.out _).mono ?_; rintro e _ ⟨p1, c1', rfl, x2, rfl, hE1, hi1, -⟩)
        | (go_at_call 19; refine (HTP.out _).mono ?_; rintro e _ ⟨p2, c2', rfl, x3, rfl, hE2, hi2, -⟩)
        | (go_at_call 20; refine (HMY.out _).mono ?_; rintro e _ ⟨p3, c3', rfl, x4, rfl, hE3', hi3, -⟩))
      have HS1 := Lib.hid (fun y (h : Ext x4.w y) => (by
        have h := SameInts02 p2 p3 Q Q c2' c3' y (by have := HQL.out; omega) (by have := HQL.out; omega) ((hi2.ext hE3').ext h) (hi3.ext h)
        rw [decide_eq_true rfl] at h
        exact h : Calls Tryz.prog 21 #[.slice p2 Q.length c2', .slice p3 Q.length c3'] y (RetE (.bool true) y)))
      have HI1' := Lib.hid (hi1.ext (hE2.trans hE3'))
      have HI2' := Lib.hid (hi2.ext hE3')
      clear hE1 hE2 hE3' hi1 hi2 hi3 HOR HOD HTP HMY
      go_wp2_with (fail)
      go_at_call 21
      with_reducible refine (HS1.out _ (Ext.refl _)).mono ?_
      rintro e w6 ⟨rfl, hE6⟩
      go_upto_region 17 with (fail)
      obtain ⟨x6, hx6⟩ := ExtW.of (x4.h.trans hE6)
      have HI1 := Lib.hid (fun y (h : Ext x6.w y) => HI1'.out.ext (hE6.trans (hx6 ▸ h)))
      have HI2 := Lib.hid (fun y (h : Ext x6.w y) => HI2'.out.ext (hE6.trans (hx6 ▸ h)))
      clear HS1 HI1' HI2' hE6
      conv => arg 5; rw [hx6]
      clear hx6
      go_wp2
      go_loopw [17] (fun a wz => ∃ j : Nat, j ≤ k ∧ a = .int .i64 j ∧ ∃ y : ExtW wr, wz = y.w ∧ Ext x6.w y.w) (fun a _ => k - (intOf a).toNat)
      case atStart => exact ⟨0, Nat.zero_le _, rfl, x6, rfl, Ext.refl _⟩
      case round =>
        obtain ⟨j, hj, rfl, y, rfl, hy⟩ := hrel
        have HY6 := Lib.hid hy
        clear hy
        by_cases hlt : j < k
        · have hlt' : (j : Int) < (k : Int) := by omega
          have hjl : j < L.length := by have := HL.out; omega
          obtain ⟨rk, hrk⟩ : ∃ rk, rk = rnk L.length (xsL L) j - 1 := ⟨_, rfl⟩
          have hp1 := rnk_pos L.length (xsL L) j
          have hp2 := rnk_le (n := L.length) (x := xsL L) hjl
          have hre : rnk L.length (xsL L) j = rk + 1 := by omega
          have hrkn : rk < k := by have := HL.out; omega
          obtain ⟨ho1, ho2⟩ := ord_one hjl
          have hnd := hit_need HL6.out HLB.out hjl hm1 (by have := HL.out; omega : m ≤ L.length)
          have hrn := hit_rank HL6.out HLB.out hjl
          have hme := top_one_mem (L := L) (f := m) hjl
          rw [hre] at hnd hrn hme
          simp only [hre, Nat.add_sub_cancel] at ho1 ho2
          rw [← HO.out] at ho1
          rw [← HQ.out] at hme
          have ho3 : O[rk]'ho1 = (j : Int) := by
            have e := HO.out
            subst e
            exact ho2
          obtain ⟨nd, hndE⟩ : ∃ nd, nd = needsA (HitC L) j m := ⟨_, rfl⟩
          rw [← hndE] at hnd
          have HRI := Lib.hid (fun x : ExtW y.w => ExtW.callX (v := .int .i64 ((rk : Int) + 1)) (x := x) (by
            have h := RankIn06 L j hjl (by have := HL.out; omega) (some ⟨g, 0, none⟩) k x.w (HIL.out.ext (y.h.trans x.h))
            rw [show vT L = xsL L from rfl, hre, HL.out] at h
            exact h))
          have HRK := Lib.hid (fun x : ExtW y.w => (by
            have h := Rank06 (HitC L) (j : Int) _ x.w (HCH.out _ (y.h.trans x.h)) HSM.out (HTR.out.ext (y.h.trans x.h))
            rw [hrn.1, hrn.2.1, hrn.2.2] at h
            exact h : Calls Tryz.prog 23 #[.agg #[vM, vX, .int .i64 0, .int .i64 1], .int .i64 (j : Int)] x.w (RetSp ((rk : Int) + 1) ((rk : Int) + 1) 0 x.w)))
          have hc0 : ∀ x : ExtW y.w, x.w.cell? ⟨b, 0, none⟩ = some (vM) := fun x => c0 ⟨x.w, y.h.trans x.h⟩
          have hc1 : ∀ x : ExtW y.w, x.w.cell? ⟨b, 1, none⟩ = some (vX) := fun x => c1 ⟨x.w, y.h.trans x.h⟩
          have hc2 : ∀ x : ExtW y.w, x.w.cell? ⟨b, 2, none⟩ = some (.int .i64 0) := fun x => c2 ⟨x.w, y.h.trans x.h⟩
          have hc3 : ∀ x : ExtW y.w, x.w.cell? ⟨b, 3, none⟩ = some (.int .i64 1) := fun x => c3 ⟨x.w, y.h.trans x.h⟩
          have hin : inL Q (j : Int) = decide (rk + 1 ≤ m) := by
            rw [Bool.eq_iff_iff, inL_iff, decide_eq_true_eq]
            exact hme
          have HNV := Lib.hid hnd.2.2
          have HNE := Lib.hid hndE
          have HIV := Lib.hid hin
          obtain ⟨po, oo, vo, hpo, hco, hvo⟩ := (HI1.out y.w HY6.out) rk ho1
          subst hpo
          rw [ho3] at hvo
          subst hvo
          have HCO := Lib.hid hco
          have hrkO : (rk : Int) < (O.length : Int) := by omega
          obtain ⟨hn0, hn1⟩ : 0 ≤ nd ∧ (nd = 0 ↔ rk + 1 ≤ m) := ⟨hnd.1, hnd.2.1⟩
          have hjj : ((j : Int) != (j : Int)) = false := by simp
          have hj20 : j ≤ 20 := by have := HL6.out; have := HL.out; omega
          have hr20 : rk ≤ 20 := by have := HL6.out; have := HL.out; omega
          clear hp1 hp2 hre ho1 ho2 hnd hrn hme ho3 hndE hin hco hrk hjl
          obtain ⟨z0, hz0⟩ := ExtW.of (Ext.refl y.w)
          conv => arg 5; rw [hz0]
          clear hz0
          go_upto_region 22 with (first
            | (go_at_call 22; refine (HRI.out _).mono ?_; rintro e _ ⟨rfl, z1, rfl, -⟩)
            | (go_at_call 23; refine (HRK.out _).mono ?_; rintro e w2 ⟨rfl, hE2⟩))
          obtain ⟨s8, hs8⟩ : ∃ s8, s8 = w2.heap.size := ⟨_, rfl⟩
          obtain ⟨W8, hW8⟩ : ∃ W8, W8 = w2.alloc (.cells #[.int .i64 ((rk : Int) + 1), .int .i64 ((rk : Int) + 1)] 38) := ⟨_, rfl⟩
          have m8 : W8.heap[s8]? = some (.cells #[.int .i64 ((rk : Int) + 1), .int .i64 ((rk : Int) + 1)] 38) := by rw [hW8, hs8]; exact heap_new _ _
          have hE8 : Ext y.w W8 := by rw [hW8]; exact (z1.h.trans hE2).alloc _
          rw [← hs8, ← hW8]
          have HE8 := Lib.hid hE8
          have ko := ExtW.cell (hE8.cell HCO.out)
          have k0 : ∀ x : ExtW W8, x.w.cell? ⟨b, 0, none⟩ = some (vM) := fun x => hc0 ⟨x.w, hE8.trans x.h⟩
          have k1 : ∀ x : ExtW W8, x.w.cell? ⟨b, 1, none⟩ = some (vX) := fun x => hc1 ⟨x.w, hE8.trans x.h⟩
          have k2 : ∀ x : ExtW W8, x.w.cell? ⟨b, 2, none⟩ = some (.int .i64 0) := fun x => hc2 ⟨x.w, hE8.trans x.h⟩
          have k3 : ∀ x : ExtW W8, x.w.cell? ⟨b, 3, none⟩ = some (.int .i64 1) := fun x => hc3 ⟨x.w, hE8.trans x.h⟩
          have k8 := ExtW.cell (v := .int .i64 ((rk : Int) + 1)) (cell_of_heap m8 0)
          have k9 := ExtW.cell (v := .int .i64 ((rk : Int) + 1)) (cell_of_heap m8 1)
          have HND := Lib.hid (fun x : ExtW W8 => ExtW.callX (v := .tuple #[.int .i64 nd, .int .i64 0]) (x := x) (by
            have h := Needs06 (HitC L) (j : Int) (m : Int) _ x.w (HCH.out _ (y.h.trans (HE8.out.trans x.h))) HSM.out (HTR.out.ext (y.h.trans (HE8.out.trans x.h))) HWF.out
            rw [← HNE.out, HNV.out] at h
            exact h))
          have HIN := Lib.hid (fun x : ExtW W8 => ExtW.callX (v := .bool (decide (rk + 1 ≤ m))) (x := x) (by
            have h := In02 p2 Q c2' (j : Int) x.w (by have := HQL.out; omega) (HI2.out _ (HY6.out.trans (HE8.out.trans x.h)))
            rw [HIV.out] at h
            exact h))
          clear hs8 hW8 m8 hE2 HRI HRK HNE HNV HIV HCO c0 c1 c2 c3 hc0 hc1 hc2 hc3 hE8
          obtain ⟨z8, hz8⟩ := ExtW.of (Ext.refl W8)
          conv => arg 5; rw [hz8]
          clear hz8
          by_cases hjm : rk + 1 ≤ m
          · have hjm1 : (rk : Int) + 1 ≤ (m : Int) := by omega
            obtain rfl : nd = 0 := hn1.2 hjm
            rw [decide_eq_true hjm] at HIN
            clear hn0 hn1
            go_wp2_with (first
              | (go_at_call 24; refine (HND.out _).mono ?_; rintro e _ ⟨rfl, z3, rfl, -⟩)
              | (go_at_call 25; refine (HIN.out _).mono ?_; rintro e _ ⟨rfl, z4, rfl, -⟩))
            exact ⟨⟨j + 1, by omega, by simp, ⟨z4.w, y.h.trans (HE8.out.trans z4.h)⟩, rfl, HY6.out.trans (HE8.out.trans z4.h)⟩, by simp [intOf]; omega⟩
          · have hjm1 : ¬(rk : Int) + 1 ≤ (m : Int) := by omega
            have hnd0 : (nd == 0) = false := by
              rw [beq_eq_false_iff_ne]
              exact fun e => hjm (hn1.1 e)
            have hnd1 : ¬nd < 0 := by omega
            rw [decide_eq_false hjm] at HIN
            clear hn0 hn1
            go_wp2_with (first
              | (go_at_call 24; refine (HND.out _).mono ?_; rintro e _ ⟨rfl, z3, rfl, -⟩)
              | (go_at_call 25; refine (HIN.out _).mono ?_; rintro e _ ⟨rfl, z4, rfl, -⟩))
            exact ⟨⟨j + 1, by omega, by simp, ⟨z4.w, y.h.trans (HE8.out.trans z4.h)⟩, rfl, HY6.out.trans (HE8.out.trans z4.h)⟩, by simp [intOf]; omega⟩
        · obtain rfl : j = k := by omega
          clear hlt
          go_wp2_with (go_at_call 15; refine (HCD.out _).mono ?_; rintro e w2 ⟨rfl, xc, rfl, -⟩)
          go_ret
          exact RetE.fin (HER.out.trans xc.h) rfl
end Go.Proofs.YtppncdbhebgcaaaGreatDoor
