/- The walk of the reference's Rounds. -/
import Derived.Test.YtimelbcfaniifaaDoorQ9d
namespace Go.Proofs.YtimelbcfaniifaaDoor
open Go.RowKit

theorem rroundEnd04 (M : Mt) {w W : World} {s : Nat} {a : Act} (lo hi z : Int) {x y : Value} {t : TypeId} (hk : roundLo M = lo ∧ roundHi M = hi ∧ askV M true = z) (hE : Ext w W)
    (hm : W.heap[s]? = some (.cells #[x, y] t)) (hs : w.heap.size ≤ s) (ha : a.tmps[2]? = some (.pointer (some ⟨s, 0, none⟩))) (hb : a.tmps[3]? = some (.int .i64 z)) (hd : a.defers = []) :
    bodyPost Tryd.prog Tryd.f45 (RetSp (roundLo M) (roundHi M) (askV M true) w) .ret a ((W.setCell ⟨s, 0, none⟩ (.int .i64 lo)).setCell ⟨s, 1, none⟩ (.int .i64 hi)) := by
  have h := heap_pair (y0 := .int .i64 lo) (y1 := .int .i64 hi) hm
  have c0 := cell_of_heap h 0
  have c1 := cell_of_heap h 1
  simp at c0 c1
  refine bodyPost_ret (v := .tuple #[.agg #[.int .i64 lo, .int .i64 hi], .int .i64 z]) ?_ hd ⟨by rw [hk.1, hk.2.1, hk.2.2], Ext.setCell (Ext.setCell hE (p := ⟨s, 0, none⟩) hs _) (p := ⟨s, 1, none⟩) hs _⟩
  cases a with
  | mk tm df =>
    simp only at ha hb
    simp [results, Tryd.results45, go_sem, ha, hb, c0, c1]
theorem zeroSpan : (#[Value.int .i64 0, Value.int .i64 0] : Array Value) = rowV 2 .i64 (fun _ => 0) := by rfl
theorem rndG_bd {M : Mt} (hM : ValidM M) {x : Int × List Int} {n : Int} (h : x ∈ truthsL M n) : 0 ≤ rndG x ∧ rndG x ≤ 16 := by
  have h1 := truthsL_bd hM h (Nat.zero_le M.weeks.length) (Nat.le_refl _)
  have h2 := truth_zero h
  have h3 := (truthsL_ok hM h).st0
  have h4 := (truthsL_ok hM h).st1
  rw [dOf_zero] at h1
  unfold rndG
  rw [h2.2]
  omega
theorem minG_zero {g : Int × List Int → Int} {T : List (Int × List Int)} (h : 0 < T.length) : minG g T 0 = g T[0] ∧ maxG g T 0 = g T[0] := by
  match T, h with
  | x :: l, _ => exact ⟨rfl, rfl⟩

set_option maxRecDepth 20000 in
set_option maxHeartbeats 16000000 in
theorem rRounds04 (M : Mt) (hf : farB M = false) (v : Value) (w : World) (hv : MtV w v M) :
    Calls Tryd.prog 45 #[v] w (RetSp (roundLo M) (roundHi M) (askV M true) w) := by
  have HV := Lib.hid hv
  have HF := Lib.hid hf
  obtain ⟨p, c, qq, d, rfl, hp, hq⟩ := hv
  clear hp hq hf
  go_enter Tryd.func45, Tryd.ntmps45
  go_upto_region 1 with (fail)
  obtain ⟨s0, hs0'⟩ : ∃ s0, s0 = w.heap.size := ⟨_, rfl⟩
  generalize hW : World.alloc _ _ = W1
  have m0 : W1.heap[s0]? = some (.cells #[.slice p M.weeks.length c, .slice qq M.reads.length d, .int .i64 M.wrong] 25) := by rw [hs0']; exact heap_at0 (by rw [← hW]; exact (by repeat (first | exact Ext.refl _ | assumption | refine Ext.drewN ?_ _ | refine Ext.drew ?_ | refine Ext.alloc ?_ _)))
  have m1 : W1.heap[s0 + 1]? = some (.cells #[.int .i64 0, .int .i64 0] 39) := by rw [hs0', ← hW]; exact heap_new2 _ _ _
  have hE1 : Ext w W1 := by rw [← hW]; exact (by repeat (first | exact Ext.refl _ | assumption | refine Ext.drewN ?_ _ | refine Ext.drew ?_ | refine Ext.alloc ?_ _))
  rw [← hs0']
  have a0 := cell_of_heap m0 0
  have a1 := cell_of_heap m0 1
  have a2 := cell_of_heap m0 2
  have HE1 := Lib.hid hE1
  have HM1 := Lib.hid m1
  have HS0 := Lib.hid (show w.heap.size ≤ s0 + 1 from by omega)
  have HK := Lib.hid (rknown04 M HF.out true _ W1 (HV.out.ext hE1))
  clear hW m0 m1 hE1 hs0'
  obtain ⟨z, hz⟩ : ∃ z, askV M true = z := ⟨_, rfl⟩
  rw [hz] at HK
  obtain ⟨T1, hT1⟩ : ∃ T1, T1 = okT z (truthsL M M.wrong) := ⟨_, rfl⟩
  rw [← hT1] at HK
  by_cases hz0 : z = 0
  case neg =>
    have HOK := Lib.hid (show roundLo M = 0 ∧ roundHi M = 0 ∧ askV M true = z from by
      refine ⟨?_, ?_, hz⟩
      · unfold roundLo; rw [hz, okN_ne hz0]
      · unfold roundHi; rw [hz, okN_ne hz0])
    have g1 : (z == 0) = false := by simpa using hz0
    clear hz hz0 hT1
    go_upto_region 3 with (go_at_call 64; refine HK.out.mono ?_; rintro e w2 ⟨q, cq, rfl, hE2, hTS⟩)
    have HM2 := Lib.hid (pair_keep HM1.out hE2)
    have HE2 := Lib.hid (HE1.out.trans hE2)
    have c0 := cell_of_heap HM2.out 0
    have c1 := cell_of_heap HM2.out 1
    have e0 : w2.frozen? ⟨s0 + 1, 0, none⟩ = false := cell_frozen HM2.out 0
    have e1 : w2.frozen? ⟨s0 + 1, 1, none⟩ = false := cell_frozen HM2.out 1
    clear hE2 hTS a0 a1 a2
    go_wp2
    refine rroundEnd04 M _ _ _ HOK.out HE2.out HM2.out HS0.out ?_ ?_ ?_ <;> rfl
  subst hz0
  obtain ⟨hM, -⟩ := askV_zero hz
  rw [okT_0 rfl] at hT1
  have hr := rounds_ref hM hz
  have hlen := truthsL_len hM HF.out M.wrong
  have hne := (truths_known hM).1 hz
  rw [← hT1] at hr hlen hne
  have HOK := Lib.hid (show roundLo M = minG rndG T1 T1.length ∧ roundHi M = maxG rndG T1 T1.length ∧ askV M true = 0 from ⟨hr.1, hr.2, hz⟩)
  have hpos : 0 < T1.length := List.length_pos_iff.2 hne
  have hpos' : (0 : Int) < (T1.length : Int) := by omega
  have HCL := Lib.hid (fun (tr : Int × List Int) (htr : tr ∈ T1) (q : Option Addr) (c : Nat) (y : World) (hq : IntsAt y q tr.2) => (by
    rw [hT1] at htr
    exact rRoundsOf04 tr.1 tr.2 (truthsL_ok hM htr) _ y ⟨q, c, rfl, hq⟩ : Calls Tryd.prog 51 #[.agg #[.int .i64 tr.1, .slice q tr.2.length c]] y (RetE (.int .i64 (rndG tr)) y)))
  have HGB := Lib.hid (fun (tr : Int × List Int) (htr : tr ∈ T1) => (by rw [hT1] at htr; exact rndG_bd hM htr : 0 ≤ rndG tr ∧ rndG tr ≤ 16))
  have HMZ := Lib.hid (minG_zero (g := rndG) hpos)
  clear hz hM hT1 hr hne
  go_upto_region 4 with (go_at_call 64; refine HK.out.mono ?_; rintro e W ⟨q, cq, rfl, hE2, hTS⟩)
  have HE := Lib.hid (HE1.out.trans hE2)
  have HTS := Lib.hid hTS
  have HM2 := Lib.hid (pair_keep HM1.out hE2)
  obtain ⟨b2, o2, q2, c2, rfl, ht0, ht1, ht2⟩ := hTS 0 hpos
  rw [Nat.zero_mul, Nat.add_zero] at ht0 ht1
  have hcl := fun y (h : Ext W y) => HCL.out T1[0] (List.getElem_mem hpos) q2 c2 y (ht2.ext h)
  have hmz := HMZ.out
  obtain ⟨g0, hg0⟩ : ∃ s, s = rndG T1[0] := ⟨_, rfl⟩
  obtain ⟨st, hst⟩ : ∃ s, s = T1[0].1 := ⟨_, rfl⟩
  obtain ⟨pl, hpl⟩ : ∃ s, s = T1[0].2.length := ⟨_, rfl⟩
  rw [← hst] at ht0
  rw [← hpl] at ht1
  rw [← hg0, ← hst, ← hpl] at hcl
  rw [← hg0] at hmz
  have HMZ := Lib.hid hmz
  have HC := Lib.hid hcl
  have HKC := Lib.hid (fun y (h : Ext W y) => (⟨h.cell ht0, h.cell ht1⟩ : y.cell? ⟨b2, o2, none⟩ = some (.int .i64 st) ∧ y.cell? ⟨b2, o2 + 1, none⟩ = some (.slice q2 pl c2)))
  clear hE2 hTS ht0 ht1 ht2 hcl hmz hg0 hst hpl a0 a1 a2 HK HE1 HM1
  refine wp_region_facts 10 [[], [0], [1], [2], [], [4], [5], [6, 3], [3, 7], []] [8, 9] Ext (FL [Is (.slice (some ⟨b2, o2, none⟩) T1.length cq), Is (.pointer (some ⟨b2, o2, none⟩)), Is (.agg #[.int .i64 st, .slice q2 pl c2]), Is (.int .i64 g0), Is (.slice (some ⟨b2, o2, none⟩) T1.length cq), Is (.pointer (some ⟨b2, o2, none⟩)), Is (.agg #[.int .i64 st, .slice q2 pl c2]), Is (.int .i64 g0), Is (.agg #[.int .i64 g0, .int .i64 g0]), NewB 39 2 .i64]) (by kernel_rfl) (by kernel_rfl) Ext.refl (fun _ _ _ => Ext.trans) (fun _ _ => Ext.size) (FL.mono ⟨Is.mono, Is.mono, Is.mono, Is.mono, Is.mono, Is.mono, Is.mono, Is.mono, Is.mono, NewB.mono, trivial⟩) ⟨?_, ?_, ?_, ?_, ?_, ?_, ?_, ?_, ?_, ?_, trivial⟩ ?_
  · refine opF_step ?_
    intro ys l0 h0 w' hr hf K hK
    clear hf
    simp only [fill, Act.put, dstO, List.take_succ_cons, List.take_zero, List.setIfInBounds_toArray, List.set_cons_zero, List.set_cons_succ, List.getElem?_cons_zero, Nat.zero_add, Nat.reduceAdd] at hK ⊢
    refine OpB.mk' ?_
    go_simp
    exact hK.out _ _ rfl (Ext.refl _)
  · refine opF_step ?_
    intro ys l0 h0 w' hr hf K hK
    obtain ⟨f0, -⟩ := hf
    have e0 : ys 0 = _ := f0
    simp only [fill, Act.put, dstO, List.take_succ_cons, List.take_zero, List.setIfInBounds_toArray, List.set_cons_zero, List.set_cons_succ, List.getElem?_cons_zero, List.getElem?_cons_succ, Nat.zero_add, Nat.reduceAdd] at hK ⊢
    simp only [e0] at hK ⊢
    clear e0 f0
    refine OpB.mk' ?_
    go_simp
    exact hK.out _ _ rfl (Ext.refl _)
  · refine opF_step ?_
    intro ys l0 h0 w' hr hf K hK
    obtain ⟨f0, -⟩ := hf
    have e0 : ys 1 = _ := f0
    obtain ⟨j0, j1⟩ := HKC.out w' ((Ext.refl W).drew.trans hr)
    simp only [fill, Act.put, dstO, List.take_succ_cons, List.take_zero, List.setIfInBounds_toArray, List.set_cons_zero, List.set_cons_succ, List.getElem?_cons_zero, List.getElem?_cons_succ, Nat.zero_add, Nat.reduceAdd] at hK ⊢
    simp only [e0] at hK ⊢
    clear e0 f0
    refine OpB.mk' ?_
    go_simp
    exact hK.out _ _ rfl (Ext.refl _)
  · refine opF_step ?_
    intro ys l0 h0 w' hr hf K hK
    obtain ⟨f0, -⟩ := hf
    have e0 : ys 2 = _ := f0
    simp only [fill, Act.put, dstO, List.take_succ_cons, List.take_zero, List.setIfInBounds_toArray, List.set_cons_zero, List.set_cons_succ, List.getElem?_cons_zero, List.getElem?_cons_succ, Nat.zero_add, Nat.reduceAdd] at hK ⊢
    simp only [e0] at hK ⊢
    clear e0 f0
    refine OpB.mk' ?_
    go_simp
    refine (HC.out w' ((Ext.refl W).drew.trans hr)).mono ?_
    rintro e w2 ⟨rfl, hE2⟩
    exact hK.out _ _ rfl hE2
  · refine opF_step ?_
    intro ys l0 h0 w' hr hf K hK
    clear hf
    simp only [fill, Act.put, dstO, List.take_succ_cons, List.take_zero, List.setIfInBounds_toArray, List.set_cons_zero, List.set_cons_succ, List.getElem?_cons_zero, List.getElem?_cons_succ, Nat.zero_add, Nat.reduceAdd] at hK ⊢
    refine OpB.mk' ?_
    go_simp
    exact hK.out _ _ rfl (Ext.refl _)
  · refine opF_step ?_
    intro ys l0 h0 w' hr hf K hK
    obtain ⟨f0, -⟩ := hf
    have e0 : ys 4 = _ := f0
    simp only [fill, Act.put, dstO, List.take_succ_cons, List.take_zero, List.setIfInBounds_toArray, List.set_cons_zero, List.set_cons_succ, List.getElem?_cons_zero, List.getElem?_cons_succ, Nat.zero_add, Nat.reduceAdd] at hK ⊢
    simp only [e0] at hK ⊢
    clear e0 f0
    refine OpB.mk' ?_
    go_simp
    exact hK.out _ _ rfl (Ext.refl _)
  · refine opF_step ?_
    intro ys l0 h0 w' hr hf K hK
    obtain ⟨f0, -⟩ := hf
    have e0 : ys 5 = _ := f0
    obtain ⟨j0, j1⟩ := HKC.out w' ((Ext.refl W).drew.trans hr)
    simp only [fill, Act.put, dstO, List.take_succ_cons, List.take_zero, List.setIfInBounds_toArray, List.set_cons_zero, List.set_cons_succ, List.getElem?_cons_zero, List.getElem?_cons_succ, Nat.zero_add, Nat.reduceAdd] at hK ⊢
    simp only [e0] at hK ⊢
    clear e0 f0
    refine OpB.mk' ?_
    go_simp
    exact hK.out _ _ rfl (Ext.refl _)
  · refine opF_step ?_
    intro ys l0 h0 w' hr hf K hK
    obtain ⟨f0, f1, -⟩ := hf
    have e0 : ys 6 = _ := f0
    have e1 : ys 3 = _ := f1
    simp only [fill, Act.put, dstO, List.take_succ_cons, List.take_zero, List.setIfInBounds_toArray, List.set_cons_zero, List.set_cons_succ, List.getElem?_cons_zero, List.getElem?_cons_succ, Nat.zero_add, Nat.reduceAdd] at hK ⊢
    simp only [e0, e1] at hK ⊢
    clear e0 e1 f0 f1
    refine OpB.mk' ?_
    go_simp
    refine (HC.out w' ((Ext.refl W).drew.trans hr)).mono ?_
    rintro e w2 ⟨rfl, hE2⟩
    exact hK.out _ _ rfl hE2
  · refine opF_step ?_
    intro ys l0 h0 w' hr hf K hK
    obtain ⟨f0, f1, -⟩ := hf
    have e0 : ys 3 = _ := f0
    have e1 : ys 7 = _ := f1
    simp only [fill, Act.put, dstO, List.take_succ_cons, List.take_zero, List.setIfInBounds_toArray, List.set_cons_zero, List.set_cons_succ, List.getElem?_cons_zero, List.getElem?_cons_succ, Nat.zero_add, Nat.reduceAdd] at hK ⊢
    simp only [e0, e1] at hK ⊢
    clear e0 e1 f0 f1
    refine OpB.mk' ?_
    go_simp
    exact hK.out _ _ rfl (Ext.refl _)
  · refine opF_step ?_
    intro ys l0 h0 w' hr hf K hK
    clear hf
    simp only [fill, Act.put, dstO, List.take_succ_cons, List.take_zero, List.setIfInBounds_toArray, List.set_cons_zero, List.set_cons_succ, List.getElem?_cons_zero, List.getElem?_cons_succ, Nat.zero_add, Nat.reduceAdd] at hK ⊢
    refine OpB.mk' ?_
    go_simp
    (try rw [zeroSpan])
    exact hK.out _ _ ⟨rfl, by simp only [size_alloc]; omega, Blk.new' rfl _ _ _ _⟩ (Ext.alloc (Ext.refl _) _)
  intro ys l0 h0 w2 hr hf hsp
  obtain ⟨f8, f9, -⟩ := hf
  have e8 : ys 8 = _ := f8
  obtain ⟨e9, lt9, bk9⟩ := f9
  simp only [fill, Act.put, List.take_succ_cons, List.take_zero, List.setIfInBounds_toArray, List.set_cons_zero, List.set_cons_succ, Nat.zero_add, Nat.reduceAdd, List.drop_succ_cons, List.drop_zero]
  rw [e8, e9]
  have sp9 := (hsp.le 9 (by omega)).1
  generalize l0 9 = bt at bk9 lt9 sp9 ⊢
  clear e8 f8 e9 hsp
  have hEX : Ext W w2 := (Ext.refl W).drew.trans hr
  have hB2 : w2.heap[bt]? = some (.cells #[.int .i64 0, .int .i64 0] 39) := bk9
  have hbt : W.heap.size ≤ bt := sp9
  have d0 := cell_of_heap hB2 0
  have d1 := cell_of_heap hB2 1
  have e0 : w2.frozen? ⟨bt, 0, none⟩ = false := cell_frozen hB2 0
  have e1 : w2.frozen? ⟨bt, 1, none⟩ = false := cell_frozen hB2 1
  have HBT := Lib.hid hbt
  have HM3 := Lib.hid (heap_pair (y0 := .int .i64 g0) (y1 := .int .i64 g0) hB2)
  have HE3 := Lib.hid (Ext.setCell (Ext.setCell hEX (p := ⟨bt, 0, none⟩) hbt (.int .i64 g0)) (p := ⟨bt, 1, none⟩) hbt (.int .i64 g0))
  clear hr hB2 bk9 lt9 sp9 hEX hbt HKC HC
  go_wp2
  go_loopw [7] (fun i wr => ∃ k : Nat, k ≤ T1.length ∧ i = .int .i64 k ∧ Ext W wr ∧ wr.heap[bt]? = some (.cells #[.int .i64 (minG rndG T1 k), .int .i64 (maxG rndG T1 k)] 39)) (fun i _ => T1.length - (intOf i).toNat)
  case atStart => exact ⟨0, Nat.zero_le _, rfl, HE3.out, by rw [HMZ.out.1, HMZ.out.2]; exact HM3.out⟩
  case round =>
    clear HE3 HM3 HMZ
    obtain ⟨k, hk, rfl, hE, hB⟩ := hrel
    have HEW := Lib.hid hE
    have HB := Lib.hid hB
    clear hE hB
    by_cases hlt : k < T1.length
    · have hlt' : (k : Int) < (T1.length : Int) := by omega
      obtain ⟨b3, o3, q3, c3, he, ht0, ht1, ht2⟩ := HTS.out k hlt
      cases he
      have hcl := fun y (h : Ext wr y) => HCL.out T1[k] (List.getElem_mem hlt) q3 c3 y (ht2.ext (HEW.out.trans h))
      have hs1 := minG_succ (g := rndG) hlt
      have hs2 := maxG_succ (g := rndG) hlt
      obtain ⟨s, hs⟩ : ∃ s, s = rndG T1[k] := ⟨_, rfl⟩
      obtain ⟨st', hst⟩ : ∃ s, s = T1[k].1 := ⟨_, rfl⟩
      obtain ⟨pl', hpl⟩ : ∃ s, s = T1[k].2.length := ⟨_, rfl⟩
      rw [← hst] at ht0
      rw [← hpl] at ht1
      rw [← hs, ← hst, ← hpl] at hcl
      rw [← hs] at hs1 hs2
      obtain ⟨lo, hlo⟩ : ∃ lo, lo = minG rndG T1 k := ⟨_, rfl⟩
      obtain ⟨hi, hhi⟩ : ∃ hi, hi = maxG rndG T1 k := ⟨_, rfl⟩
      rw [← hlo, ← hhi] at HB
      rw [← hlo] at hs1
      rw [← hhi] at hs2
      obtain ⟨lo2, hlo2⟩ : ∃ lo2 : Int, min lo s = lo2 := ⟨_, rfl⟩
      obtain ⟨hi2, hhi2⟩ : ∃ hi2 : Int, max hi s = hi2 := ⟨_, rfl⟩
      have HI0 := Lib.hid (show (if s < lo then s else lo) = lo2 from by rw [← hlo2]; split <;> omega)
      have HI1 := Lib.hid (show (if hi < s then s else hi) = hi2 from by rw [← hhi2]; split <;> omega)
      rw [hlo2] at hs1
      rw [hhi2] at hs2
      have HSU := Lib.hid (⟨hs1, hs2⟩ : minG rndG T1 (k + 1) = lo2 ∧ maxG rndG T1 (k + 1) = hi2)
      have HC := Lib.hid hcl
      have HKC := Lib.hid (fun y (h : Ext wr y) => (⟨h.cell (HEW.out.cell ht0), h.cell (HEW.out.cell ht1), cell_of_heap (pair_keep HB.out h) 0, cell_of_heap (pair_keep HB.out h) 1⟩ :
        y.cell? ⟨b2, o2 + k * 2, none⟩ = some (.int .i64 st') ∧ y.cell? ⟨b2, o2 + k * 2 + 1, none⟩ = some (.slice q3 pl' c3) ∧ y.cell? ⟨bt, 0, none⟩ = some (.int .i64 lo) ∧ y.cell? ⟨bt, 1, none⟩ = some (.int .i64 hi)))
      clear ht0 ht1 ht2 hcl hs1 hs2 hs hst hpl hlo hhi hlo2 hhi2
      go_upto_region 8 with (fail)
      refine wp_region_facts 17 [[], [0], [], [], [2, 3], [4], [5], [1, 6], [], [8], [], [], [10, 11], [12], [13, 6], [9, 14], [7, 15]] [16] Ext (FL [Is (.pointer (some ⟨bt, 0, none⟩)), Is (.int .i64 lo), Is (.slice (some ⟨b2, o2, none⟩) T1.length cq), Is (.int .i64 (k : Int)), Is (.pointer (some ⟨b2, o2 + k * 2, none⟩)), Is (.agg #[.int .i64 st', .slice q3 pl' c3]), Is (.int .i64 s), Is (.int .i64 lo2), Is (.pointer (some ⟨bt, 1, none⟩)), Is (.int .i64 hi), Is (.slice (some ⟨b2, o2, none⟩) T1.length cq), Is (.int .i64 (k : Int)), Is (.pointer (some ⟨b2, o2 + k * 2, none⟩)), Is (.agg #[.int .i64 st', .slice q3 pl' c3]), Is (.int .i64 s), Is (.int .i64 hi2), Is (.agg #[.int .i64 lo2, .int .i64 hi2])]) (by kernel_rfl) (by kernel_rfl) Ext.refl (fun _ _ _ => Ext.trans) (fun _ _ => Ext.size) (FL.mono ⟨Is.mono, Is.mono, Is.mono, Is.mono, Is.mono, Is.mono, Is.mono, Is.mono, Is.mono, Is.mono, Is.mono, Is.mono, Is.mono, Is.mono, Is.mono, Is.mono, Is.mono, trivial⟩) ⟨?_, ?_, ?_, ?_, ?_, ?_, ?_, ?_, ?_, ?_, ?_, ?_, ?_, ?_, ?_, ?_, ?_, trivial⟩ ?_
      · refine opF_step ?_
        intro ys l0 h0 w' hr hf K hK
        clear hf
        simp only [fill, Act.put, dstO, List.take_succ_cons, List.take_zero, List.setIfInBounds_toArray, List.set_cons_zero, List.set_cons_succ, List.getElem?_cons_zero, Nat.zero_add, Nat.reduceAdd] at hK ⊢
        refine OpB.mk' ?_
        go_simp
        exact hK.out _ _ rfl (Ext.refl _)
      · refine opF_step ?_
        intro ys l0 h0 w' hr hf K hK
        obtain ⟨f0, -⟩ := hf
        have e0 : ys 0 = _ := f0
        obtain ⟨j0, j1, j2, j3⟩ := HKC.out w' ((Ext.refl wr).drew.trans hr)
        simp only [fill, Act.put, dstO, List.take_succ_cons, List.take_zero, List.setIfInBounds_toArray, List.set_cons_zero, List.set_cons_succ, List.getElem?_cons_zero, List.getElem?_cons_succ, Nat.zero_add, Nat.reduceAdd] at hK ⊢
        simp only [e0] at hK ⊢
        clear e0 f0
        refine OpB.mk' ?_
        go_simp
        exact hK.out _ _ rfl (Ext.refl _)
      · refine opF_step ?_
        intro ys l0 h0 w' hr hf K hK
        clear hf
        simp only [fill, Act.put, dstO, List.take_succ_cons, List.take_zero, List.setIfInBounds_toArray, List.set_cons_zero, List.set_cons_succ, List.getElem?_cons_zero, List.getElem?_cons_succ, Nat.zero_add, Nat.reduceAdd] at hK ⊢
        refine OpB.mk' ?_
        go_simp
        exact hK.out _ _ rfl (Ext.refl _)
      · refine opF_step ?_
        intro ys l0 h0 w' hr hf K hK
        clear hf
        simp only [fill, Act.put, dstO, List.take_succ_cons, List.take_zero, List.setIfInBounds_toArray, List.set_cons_zero, List.set_cons_succ, List.getElem?_cons_zero, List.getElem?_cons_succ, Nat.zero_add, Nat.reduceAdd] at hK ⊢
        refine OpB.mk' ?_
        go_simp
        exact hK.out _ _ rfl (Ext.refl _)
      · refine opF_step ?_
        intro ys l0 h0 w' hr hf K hK
        obtain ⟨f0, f1, -⟩ := hf
        have e0 : ys 2 = _ := f0
        have e1 : ys 3 = _ := f1
        simp only [fill, Act.put, dstO, List.take_succ_cons, List.take_zero, List.setIfInBounds_toArray, List.set_cons_zero, List.set_cons_succ, List.getElem?_cons_zero, List.getElem?_cons_succ, Nat.zero_add, Nat.reduceAdd] at hK ⊢
        simp only [e0, e1] at hK ⊢
        clear e0 e1 f0 f1
        refine OpB.mk' ?_
        go_simp
        exact hK.out _ _ rfl (Ext.refl _)
      · refine opF_step ?_
        intro ys l0 h0 w' hr hf K hK
        obtain ⟨f0, -⟩ := hf
        have e0 : ys 4 = _ := f0
        obtain ⟨j0, j1, j2, j3⟩ := HKC.out w' ((Ext.refl wr).drew.trans hr)
        simp only [fill, Act.put, dstO, List.take_succ_cons, List.take_zero, List.setIfInBounds_toArray, List.set_cons_zero, List.set_cons_succ, List.getElem?_cons_zero, List.getElem?_cons_succ, Nat.zero_add, Nat.reduceAdd] at hK ⊢
        simp only [e0] at hK ⊢
        clear e0 f0
        refine OpB.mk' ?_
        go_simp
        exact hK.out _ _ rfl (Ext.refl _)
      · refine opF_step ?_
        intro ys l0 h0 w' hr hf K hK
        obtain ⟨f0, -⟩ := hf
        have e0 : ys 5 = _ := f0
        simp only [fill, Act.put, dstO, List.take_succ_cons, List.take_zero, List.setIfInBounds_toArray, List.set_cons_zero, List.set_cons_succ, List.getElem?_cons_zero, List.getElem?_cons_succ, Nat.zero_add, Nat.reduceAdd] at hK ⊢
        simp only [e0] at hK ⊢
        clear e0 f0
        refine OpB.mk' ?_
        go_simp
        refine (HC.out w' ((Ext.refl wr).drew.trans hr)).mono ?_
        rintro e w2 ⟨rfl, hE2⟩
        exact hK.out _ _ rfl hE2
      · refine opF_step ?_
        intro ys l0 h0 w' hr hf K hK
        obtain ⟨f0, f1, -⟩ := hf
        have e0 : ys 1 = _ := f0
        have e1 : ys 6 = _ := f1
        simp only [fill, Act.put, dstO, List.take_succ_cons, List.take_zero, List.setIfInBounds_toArray, List.set_cons_zero, List.set_cons_succ, List.getElem?_cons_zero, List.getElem?_cons_succ, Nat.zero_add, Nat.reduceAdd] at hK ⊢
        simp only [e0, e1] at hK ⊢
        clear e0 e1 f0 f1
        refine OpB.mk' ?_
        go_simp
        rw [HI0.out]
        exact hK.out _ _ rfl (Ext.refl _)
      · refine opF_step ?_
        intro ys l0 h0 w' hr hf K hK
        clear hf
        simp only [fill, Act.put, dstO, List.take_succ_cons, List.take_zero, List.setIfInBounds_toArray, List.set_cons_zero, List.set_cons_succ, List.getElem?_cons_zero, List.getElem?_cons_succ, Nat.zero_add, Nat.reduceAdd] at hK ⊢
        refine OpB.mk' ?_
        go_simp
        exact hK.out _ _ rfl (Ext.refl _)
      · refine opF_step ?_
        intro ys l0 h0 w' hr hf K hK
        obtain ⟨f0, -⟩ := hf
        have e0 : ys 8 = _ := f0
        obtain ⟨j0, j1, j2, j3⟩ := HKC.out w' ((Ext.refl wr).drew.trans hr)
        simp only [fill, Act.put, dstO, List.take_succ_cons, List.take_zero, List.setIfInBounds_toArray, List.set_cons_zero, List.set_cons_succ, List.getElem?_cons_zero, List.getElem?_cons_succ, Nat.zero_add, Nat.reduceAdd] at hK ⊢
        simp only [e0] at hK ⊢
        clear e0 f0
        refine OpB.mk' ?_
        go_simp
        exact hK.out _ _ rfl (Ext.refl _)
      · refine opF_step ?_
        intro ys l0 h0 w' hr hf K hK
        clear hf
        simp only [fill, Act.put, dstO, List.take_succ_cons, List.take_zero, List.setIfInBounds_toArray, List.set_cons_zero, List.set_cons_succ, List.getElem?_cons_zero, List.getElem?_cons_succ, Nat.zero_add, Nat.reduceAdd] at hK ⊢
        refine OpB.mk' ?_
        go_simp
        exact hK.out _ _ rfl (Ext.refl _)
      · refine opF_step ?_
        intro ys l0 h0 w' hr hf K hK
        clear hf
        simp only [fill, Act.put, dstO, List.take_succ_cons, List.take_zero, List.setIfInBounds_toArray, List.set_cons_zero, List.set_cons_succ, List.getElem?_cons_zero, List.getElem?_cons_succ, Nat.zero_add, Nat.reduceAdd] at hK ⊢
        refine OpB.mk' ?_
        go_simp
        exact hK.out _ _ rfl (Ext.refl _)
      · refine opF_step ?_
        intro ys l0 h0 w' hr hf K hK
        obtain ⟨f0, f1, -⟩ := hf
        have e0 : ys 10 = _ := f0
        have e1 : ys 11 = _ := f1
        simp only [fill, Act.put, dstO, List.take_succ_cons, List.take_zero, List.setIfInBounds_toArray, List.set_cons_zero, List.set_cons_succ, List.getElem?_cons_zero, List.getElem?_cons_succ, Nat.zero_add, Nat.reduceAdd] at hK ⊢
        simp only [e0, e1] at hK ⊢
        clear e0 e1 f0 f1
        refine OpB.mk' ?_
        go_simp
        exact hK.out _ _ rfl (Ext.refl _)
      · refine opF_step ?_
        intro ys l0 h0 w' hr hf K hK
        obtain ⟨f0, -⟩ := hf
        have e0 : ys 12 = _ := f0
        obtain ⟨j0, j1, j2, j3⟩ := HKC.out w' ((Ext.refl wr).drew.trans hr)
        simp only [fill, Act.put, dstO, List.take_succ_cons, List.take_zero, List.setIfInBounds_toArray, List.set_cons_zero, List.set_cons_succ, List.getElem?_cons_zero, List.getElem?_cons_succ, Nat.zero_add, Nat.reduceAdd] at hK ⊢
        simp only [e0] at hK ⊢
        clear e0 f0
        refine OpB.mk' ?_
        go_simp
        exact hK.out _ _ rfl (Ext.refl _)
      · refine opF_step ?_
        intro ys l0 h0 w' hr hf K hK
        obtain ⟨f0, f1, -⟩ := hf
        have e0 : ys 13 = _ := f0
        have e1 : ys 6 = _ := f1
        simp only [fill, Act.put, dstO, List.take_succ_cons, List.take_zero, List.setIfInBounds_toArray, List.set_cons_zero, List.set_cons_succ, List.getElem?_cons_zero, List.getElem?_cons_succ, Nat.zero_add, Nat.reduceAdd] at hK ⊢
        simp only [e0, e1] at hK ⊢
        clear e0 e1 f0 f1
        refine OpB.mk' ?_
        go_simp
        refine (HC.out w' ((Ext.refl wr).drew.trans hr)).mono ?_
        rintro e w2 ⟨rfl, hE2⟩
        exact hK.out _ _ rfl hE2
      · refine opF_step ?_
        intro ys l0 h0 w' hr hf K hK
        obtain ⟨f0, f1, -⟩ := hf
        have e0 : ys 9 = _ := f0
        have e1 : ys 14 = _ := f1
        simp only [fill, Act.put, dstO, List.take_succ_cons, List.take_zero, List.setIfInBounds_toArray, List.set_cons_zero, List.set_cons_succ, List.getElem?_cons_zero, List.getElem?_cons_succ, Nat.zero_add, Nat.reduceAdd] at hK ⊢
        simp only [e0, e1] at hK ⊢
        clear e0 e1 f0 f1
        refine OpB.mk' ?_
        go_simp
        rw [HI1.out]
        exact hK.out _ _ rfl (Ext.refl _)
      · refine opF_step ?_
        intro ys l0 h0 w' hr hf K hK
        obtain ⟨f0, f1, -⟩ := hf
        have e0 : ys 7 = _ := f0
        have e1 : ys 15 = _ := f1
        simp only [fill, Act.put, dstO, List.take_succ_cons, List.take_zero, List.setIfInBounds_toArray, List.set_cons_zero, List.set_cons_succ, List.getElem?_cons_zero, List.getElem?_cons_succ, Nat.zero_add, Nat.reduceAdd] at hK ⊢
        simp only [e0, e1] at hK ⊢
        clear e0 e1 f0 f1
        refine OpB.mk' ?_
        go_simp
        exact hK.out _ _ rfl (Ext.refl _)
      intro ys l0 h0 w2 hr hf hsp
      obtain ⟨f16, -⟩ := hf
      have e16 : ys 16 = _ := f16
      simp only [fill, Act.put, List.take_succ_cons, List.take_zero, List.setIfInBounds_toArray, List.set_cons_zero, List.set_cons_succ, Nat.zero_add, Nat.reduceAdd, List.drop_succ_cons, List.drop_zero]
      rw [e16]
      clear e16 f16 hsp
      have hEX := (Ext.refl wr).drew.trans hr
      have hB4 := pair_keep HB.out hEX
      have HN := Lib.hid (heap_pair (y0 := .int .i64 lo2) (y1 := .int .i64 hi2) hB4)
      have HE4 := Lib.hid (Ext.setCell (Ext.setCell (HEW.out.trans hEX) (p := ⟨bt, 0, none⟩) HBT.out (.int .i64 lo2)) (p := ⟨bt, 1, none⟩) HBT.out (.int .i64 hi2))
      have d0 := cell_of_heap hB4 0
      have d1 := cell_of_heap hB4 1
      have e0 : w2.frozen? ⟨bt, 0, none⟩ = false := cell_frozen hB4 0
      have e1 : w2.frozen? ⟨bt, 1, none⟩ = false := cell_frozen hB4 1
      clear hEX hB4 hr HKC HC
      go_wp2
      go_roundw
      case rel => exact ⟨k + 1, by omega, by simp, HE4.out, by rw [HSU.out.1, HSU.out.2]; exact HN.out⟩
      case measure => simp [intOf]; omega
    · obtain rfl : k = T1.length := by omega
      have hz2 := pair_keep HM2.out HEW.out
      have hok := HOK.out
      have hB := HB.out
      obtain ⟨lo, hlo⟩ : ∃ lo, lo = minG rndG T1 T1.length := ⟨_, rfl⟩
      obtain ⟨hi, hhi⟩ : ∃ hi, hi = maxG rndG T1 T1.length := ⟨_, rfl⟩
      rw [← hlo, ← hhi] at hok hB
      have HOK2 := Lib.hid hok
      have HZ := Lib.hid hz2
      have c0 := cell_of_heap hB 0
      have c1 := cell_of_heap hB 1
      have c2 := cell_of_heap hz2 0
      have c3 := cell_of_heap hz2 1
      have e0 : wr.frozen? ⟨s0 + 1, 0, none⟩ = false := cell_frozen hz2 0
      have e1 : wr.frozen? ⟨s0 + 1, 1, none⟩ = false := cell_frozen hz2 1
      clear hok hlo hhi hB hz2
      go_wp2
      refine rroundEnd04 M _ _ _ HOK2.out (HE.out.trans HEW.out) HZ.out HS0.out ?_ ?_ ?_ <;> rfl
end Go.Proofs.YtimelbcfaniifaaDoor
