
/- The walks of the reference's Sums and Shows. -/
import Derived.Test.YtppncdbhebgcaaaGreatDoorQ9b
import Derived.Test.YtppncdbhebgcaaaGreatDoorQ8e
namespace Go.Proofs.YtppncdbhebgcaaaGreatDoor
open Go.RowKit Go.Maps

theorem askV_zero {M : Mt} {is : Bool} (h : askV M is = 0) : ValidM M ∧ is = true := by
  by_cases hM : ValidM M
  · cases is
    · rw [askV_false hM] at h; exact absurd h (by decide)
    · exact ⟨hM, rfl⟩
  · rw [askV_bad hM] at h; exact absurd h (by decide)
theorem CntInt.step {w' : World} {b k : Nat} {g : Lit → Int} {G : Int × List Int → Int} {T : List (Int × List Int)} {s : Int} (hgf : ∀ s, g (.int .i64 s) = (cntT G T k s : Nat)) (hsu : ∀ s', cntT G T (k + 1) s' = cntT G T k s' + if s = s' then 1 else 0)
    (h : CntMap w' 3 b (k + 1) (cntUp g (.int .i64 s) ((cntT G T k s : Nat) + 1))) : CntInt w' b (k + 1) (fun s => (cntT G T (k + 1) s : Nat)) := by
  refine ⟨_, h, fun s' => ?_⟩
  show _ = ((cntT G T (k + 1) s' : Nat) : Int)
  by_cases e : s = s'
  · subst e
    rw [cntUp_same, hsu, if_pos rfl]
    rfl
  · rw [cntUp_other _ _ (fun h => e (by injection h with _ h; exact h.symm)), hgf, hsu, if_neg e]
    rfl

set_option maxRecDepth 20000 in
set_option maxHeartbeats 3200000 in
theorem rSums04 (M : Mt) (hf : farB M = false) (f t : Int) (v : Value) (w : World) (hv : MtV w v M) :
    Calls Tryz.prog 83 #[v, .int .i64 f, .int .i64 t] w (RetL (sumsA M f t) (askV M (areB f t M.weeks.length)) w) := by
  have HV := Lib.hid hv
  have HF := Lib.hid hf
  have hmm := @run_makeMap Tryz.prog
  obtain ⟨p, c, qq, d, rfl, hp, hq⟩ := hv
  clear hp hq hf
  go_enter Tryz.func83, Tryz.ntmps83
  go_upto_region 1 with (fail)
  obtain ⟨s0, hs0⟩ : ∃ s0, s0 = w.heap.size := ⟨_, rfl⟩
  obtain ⟨W1, hW⟩ : ∃ W, W = w.alloc (.cells #[.slice p M.weeks.length c, .slice qq M.reads.length d, .int .i64 M.wrong] 55) := ⟨_, rfl⟩
  have m0 : W1.heap[s0]? = some (.cells #[.slice p M.weeks.length c, .slice qq M.reads.length d, .int .i64 M.wrong] 55) := by rw [hs0, hW]; exact heap_new _ _
  have hE1 : Ext w W1 := by rw [hW]; exact (by repeat (first | exact Ext.refl _ | assumption | refine Ext.drewN ?_ _ | refine Ext.drew ?_ | refine Ext.alloc ?_ _))
  rw [← hs0, ← hW]
  have a0 := ExtW.cell (v := .slice p M.weeks.length c) (cell_of_heap m0 0)
  have a1 := ExtW.cell (v := .slice qq M.reads.length d) (cell_of_heap m0 1)
  have a2 := ExtW.cell (v := .int .i64 M.wrong) (cell_of_heap m0 2)
  have HM0 := Lib.hid m0
  have HE1 := Lib.hid hE1
  obtain ⟨is, his⟩ : ∃ is, is = areB f t M.weeks.length := ⟨_, rfl⟩
  obtain ⟨z, hz⟩ : ∃ z, z = askV M is := ⟨_, rfl⟩
  have HAK := Lib.hid (fun y (h : Ext W1 y) => (his ▸ AreWeeks04 M f t _ y (HV.out.ext (HE1.out.trans h)) : Calls Tryz.prog 30 #[.agg #[.slice p M.weeks.length c, .slice qq M.reads.length d, .int .i64 M.wrong], .int .i64 f, .int .i64 t] y (RetE (.bool is) y)))
  have HKN := Lib.hid (fun y (h : Ext W1 y) => rknown04 M HF.out is _ y (HV.out.ext (HE1.out.trans h)))
  rw [← hz] at HKN
  have HZ := Lib.hid (his ▸ hz : z = askV M (areB f t M.weeks.length))
  have HIS := Lib.hid his
  have HQ := Lib.hid (fun (y : World) (h : Ext W1 y) => (⟨a0 ⟨y, h⟩, a1 ⟨y, h⟩, a2 ⟨y, h⟩⟩ : y.cell? ⟨s0, 0, none⟩ = some (.slice p M.weeks.length c) ∧ y.cell? ⟨s0, 1, none⟩ = some (.slice qq M.reads.length d) ∧ y.cell? ⟨s0, 2, none⟩ = some (.int .i64 M.wrong)))
  obtain ⟨x0, hx0⟩ := ExtW.of (Ext.refl W1)
  have HX := Lib.hid x0.h
  clear hW m0 hE1 hs0 his hz
  conv => arg 5; rw [hx0]
  clear hx0 a0 a1 a2
  obtain ⟨T1, hT1⟩ : ∃ T1, T1 = okT z (truthsL M M.wrong) := ⟨_, rfl⟩
  rw [← hT1] at HKN
  have HT1 := Lib.hid hT1
  clear hT1
  go_region_held3 (fun z => z.cell? ⟨s0, 0, none⟩ = some (.slice p M.weeks.length c) ∧ z.cell? ⟨s0, 1, none⟩ = some (.slice qq M.reads.length d) ∧ z.cell? ⟨s0, 2, none⟩ = some (.int .i64 M.wrong))
    ((refine HQ.out _ ?_; repeat (first | with_reducible exact HX.out | with_reducible refine Ext.drew ?_ | with_reducible refine Ext.trans ?_ (StpK.out (by assumption)))))
    (first
      | (go_at_call 30; refine (HAK.out _ (by repeat (first | with_reducible exact HX.out | with_reducible refine Ext.drew ?_ | with_reducible refine Ext.trans ?_ (StpK.out (by assumption))))).mono ?_; rintro e w1 ⟨rfl, hE5⟩; have hS5 := StpK.mk hE5; clear hE5)
      | (go_at_call 120; refine (HKN.out _ (by repeat (first | with_reducible exact HX.out | with_reducible refine Ext.drew ?_ | with_reducible refine Ext.trans ?_ (StpK.out (by assumption))))).mono ?_; rintro e W ⟨q, cq, rfl, hE6, hTS⟩; have HTS := Lib.hid hTS; have hS6 := StpK.mk hE6; have HEW := Lib.hid (show Ext W1 W from (by repeat (first | with_reducible exact HX.out | with_reducible refine Ext.drew ?_ | with_reducible refine Ext.trans ?_ (StpK.out (by assumption))))); clear hE6 hTS))
  clear hS5 hS6 HKN HAK HQ HX x0
  by_cases hz0 : z = 0
  case neg =>
    have g1 : (z == 0) = false := by simpa using hz0
    have HL := Lib.hid (show sumsA M f t = [] from okL_ne (by rw [← HZ.out]; exact hz0) _)
    go_wp2
    go_ret2
    exact ⟨.slice none 0 0, by rw [← HZ.out]; rfl, by rw [HL.out]; exact World.ownsRow_nil _ _ _ _, HE1.out.trans HEW.out⟩
  subst hz0
  obtain ⟨hM, hib⟩ := askV_zero HZ.out.symm
  have HL := Lib.hid (show sumsA M f t = srtL (sumG f t) T1 1500 from by
    rw [HT1.out, okT_0 rfl]
    exact sums_ref hM hib (by have h := HZ.out; rw [hib] at h; exact h.symm))
  have hT1 := HT1.out
  rw [okT_0 rfl] at hT1
  have hlen := truthsL_len hM HF.out M.wrong
  rw [← hT1] at hlen
  have hab := areB_iff.1 hib
  have HCL := Lib.hid (fun (tr : Int × List Int) (htr : tr ∈ T1) (q : Option Addr) (c : Nat) (y : World) (hq : IntsAt y q tr.2) => (by
    rw [hT1] at htr
    have h := rSum04 tr.1 tr.2 (truthsL_ok hM htr) f.toNat t.toNat (by omega) (by have := (truth_zero htr).2; omega) _ y ⟨q, c, rfl, hq⟩
    rw [Int.toNat_of_nonneg (by omega), Int.toNat_of_nonneg (by omega)] at h
    exact h : Calls Tryz.prog 121 #[.agg #[.int .i64 tr.1, .slice q tr.2.length c], .int .i64 f, .int .i64 t] y (RetE (.int .i64 (sumG f t tr)) y)))
  have HGB := Lib.hid (fun (tr : Int × List Int) (htr : tr ∈ T1) => (by
    rw [hT1] at htr
    exact truthsL_bd hM htr (by omega) (by omega) : 0 ≤ sumG f t tr ∧ sumG f t tr ≤ 1500))
  clear hab
  have HEW := Lib.hid (HE1.out.trans HEW.out)
  clear HT1 hT1 hM hib HIS HE1 HM0
  go_upto_region 5 with (fail)
  obtain ⟨bm, hbm⟩ : ∃ b, b = W.heap.size := ⟨_, rfl⟩
  obtain ⟨W2, hW2⟩ : ∃ W2, W2 = W.alloc (.map #[] 0) := ⟨_, rfl⟩
  have hE2 : Ext W W2 := by rw [hW2]; exact Ext.alloc (Ext.refl _) _
  have hcm : CntMap W2 3 bm 0 (fun _ => 0) := by rw [hW2, hbm]; exact CntMap.made W _
  have HBM := Lib.hid (show W.heap.size ≤ bm by omega)
  rw [← hbm, ← hW2]
  have HCM := Lib.hid hcm
  have HE2 := Lib.hid hE2
  clear hW2 hbm hcm hE2
  go_wp2
  go_loopw [11] (fun i wr => ∃ k : Nat, k ≤ T1.length ∧ i = .int .i64 k ∧ Ext W wr ∧ CntInt wr bm k (fun s => (cntT (sumG f t) T1 k s : Nat))) (fun i _ => T1.length - (intOf i).toNat)
  case atStart => exact ⟨0, Nat.zero_le _, rfl, HE2.out, _, HCM.out, fun s => by unfold cntT; simp⟩
  case round =>
    obtain ⟨k, hk, rfl, hE, hC⟩ := hrel
    have HE := Lib.hid hE
    clear hE HCM HE2
    by_cases hlt : k < T1.length
    · have hlt' : (k : Int) < (T1.length : Int) := by omega
      obtain ⟨b2, o2, q2, c2, rfl, ht0, ht1, ht2⟩ := HTS.out k hlt
      have t0 := HE.out.cell ht0
      have t1 := HE.out.cell ht1
      have hcl := HCL.out T1[k] (List.getElem_mem hlt) q2 c2 wr (ht2.ext HE.out)
      have hgb := HGB.out T1[k] (List.getElem_mem hlt)
      obtain ⟨g, hg, hgf0⟩ := hC
      have hgf : ∀ s, g (.int .i64 s) = ((cntT (sumG f t) T1 k s : Nat) : Int) := hgf0
      clear hgf0
      have hsu := fun s => cntT_succ (g := sumG f t) hlt s
      obtain ⟨s, hs⟩ : ∃ s, s = (sumG f t) T1[k] := ⟨_, rfl⟩
      obtain ⟨st, hst⟩ : ∃ s, s = T1[k].1 := ⟨_, rfl⟩
      obtain ⟨pl, hpl⟩ : ∃ s, s = T1[k].2 := ⟨_, rfl⟩
      rw [← hs, ← hst, ← hpl] at hcl
      rw [← hs] at hgb
      simp only [← hs] at hsu
      rw [← hst] at t0
      rw [← hpl] at t1
      have hgs := hgf s
      have hcle := cntT_le (sumG f t) T1 k s
      have HST := Lib.hid (fun w' (h : CntMap w' 3 bm (k + 1) (cntUp g (.int .i64 s) ((cntT (sumG f t) T1 k s : Nat) + 1))) => CntInt.step hgf hsu h)
      obtain ⟨n, hn⟩ : ∃ n, n = cntT (sumG f t) T1 k s := ⟨_, rfl⟩
      rw [← hn] at hgs hcle HST
      have HC := Lib.hid hcl
      have HGS := Lib.hid hgs
      have HG := Lib.hid hg
      have hwn : IntKind.i64.wrap ((n : Int) + 1) = (n : Int) + 1 := IntWalk.i64_in _ (by omega)
      clear ht0 ht1 ht2 hcl hg hgf hsu hs hst hpl hgs hn HL
      go_wp2_with (first
        | (go_at_call 121; refine HC.out.mono ?_; rintro e w2 ⟨rfl, hE3⟩; have HG2 := Lib.hid (HG.out.ext hE3); have HE3 := Lib.hid (HE.out.trans hE3); clear hE3)
        | (at_lookup; refine wp_cnt_look _ rfl _ _ _ rfl 3 law_int Tryz.underlying97 bm k g rfl HG2.out _ (.int .i64 s) rfl (key_int (WalkArith.wf_i64 (by omega))) ?_; rw [HGS.out])
        | (at_mapUpdate; refine wp_cnt_put _ rfl _ _ _ _ rfl 3 law_int Tryz.underlying97 bm k g rfl HG2.out (by unfold maxLen; omega) _ (.int .i64 s) rfl (key_int (WalkArith.wf_i64 (by omega))) ((n : Int) + 1) rfl (WalkArith.wf_i64 (by omega)) ?_; intro w4 hc4 hg4; have HC4 := Lib.hid hc4; have HE4 := Lib.hid (Below.grown HE3.out hg4 HE3.out.size (fun j hj => by cases hj; exact HBM.out) : Ext W w4); clear hc4 hg4))
      go_roundw
      case rel => exact ⟨k + 1, by omega, by simp, HE4.out, HST.out _ HC4.out⟩
      case measure => simp [intOf]; omega
    · obtain rfl : k = T1.length := by omega
      have HSO := Lib.hid (rsorted04 bm T1.length _ 1500 (by omega) wr hC)
      clear hC
      go_wp2_with (go_at_call 122; refine HSO.out.mono ?_; rintro e w5 ⟨u, rfl, hO, hE5⟩)
      go_ret2
      refine ⟨u, by rw [← HZ.out]; rfl, ?_, (HEW.out.trans HE.out).trans hE5⟩
      have e1 : pickTo (fun i => decide (0 < ((cntT (sumG f t) T1 T1.length (i : Nat) : Nat) : Int))) (1500 + 1) = srtL (sumG f t) T1 1500 := pick_congr fun i _ => by rw [Bool.eq_iff_iff, decide_eq_true_eq, decide_eq_true_eq]; omega
      rw [e1] at hO
      rw [HL.out]
      exact ownsRow_base hO (HEW.out.trans HE.out).size

end Go.Proofs.YtppncdbhebgcaaaGreatDoor
