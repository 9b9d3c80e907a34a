/- The walks of the reference's always, Strange and Sure. -/
import Derived.Test.YtimelbcfaniifaaDoorQ8e
namespace Go.Proofs.YtimelbcfaniifaaDoor
open Go.RowKit

set_option maxRecDepth 20000 in
set_option maxHeartbeats 3200000 in
theorem ralways04 (M : Mt) (hf : farB M = false) (all : Bool) (v : Value) (w : World) (hv : MtV w v M) :
    Calls Tryd.prog 74 #[v, .bool all] w (RetL (alwA M all) (askV M true) w) := by
  have HV := Lib.hid hv
  have hl := far_len hf
  have HKN := Lib.hid (fun y (h : Ext w y) => rknown04 M hf true _ y (hv.ext h))
  have HF := Lib.hid hf
  obtain ⟨i0, hi, hz0, hz1, hz2⟩ := info_parts info_a
  obtain ⟨p, c, qq, d, rfl, hp, hq⟩ := hv
  have HRQ := Lib.hid hq
  clear hp hq hf hl
  go_enter Tryd.func74, Tryd.ntmps74
  go_upto_region 1 with (fail)
  obtain ⟨s0, hs0⟩ : ∃ s0, s0 = w.heap.size := ⟨_, rfl⟩
  obtain ⟨W1, hW⟩ : ∃ W, W = w.alloc (.cells #[.slice p M.weeks.length c, .slice qq M.reads.length d, .int .i64 M.wrong] 25) := ⟨_, rfl⟩
  have m0 : W1.heap[s0]? = some (.cells #[.slice p M.weeks.length c, .slice qq M.reads.length d, .int .i64 M.wrong] 25) := by rw [hs0, hW]; exact heap_new _ _
  have hE1 : Ext w W1 := by rw [hW]; exact (by repeat (first | exact Ext.refl _ | assumption | refine Ext.drewN ?_ _ | refine Ext.drew ?_ | refine Ext.alloc ?_ _))
  rw [← hs0, ← hW]
  have a0 := cell_of_heap m0 0
  have a1 := cell_of_heap m0 1
  have a2 := cell_of_heap m0 2
  have HM0 := Lib.hid m0
  have HE1 := Lib.hid hE1
  have HK := Lib.hid (HKN.out W1 hE1)
  obtain ⟨z, hz⟩ : ∃ z, z = askV M true := ⟨_, rfl⟩
  rw [← hz] at HK
  have HZ := Lib.hid hz
  clear hW m0 hE1 hs0 HKN
  by_cases hz0' : z = 0
  case neg =>
    rw [okT_ne hz0'] at HK
    have g1 : (z == 0) = false := by simpa using hz0'
    have HA := Lib.hid (show alwA M all = [] from okL_ne (by rw [← hz]; exact hz0') _)
    clear hz
    go_wp2_with (go_at_call 64; refine HK.out.mono ?_; rintro e w2 ⟨q, cq, rfl, hE2, hq⟩)
    have HE2 := Lib.hid (HE1.out.trans hE2)
    clear hE2 hq
    go_ret2
    exact ⟨.slice none 0 0, by have h := HZ.out; subst h; rfl, by rw [HA.out]; exact World.ownsRow_nil _ _ _ _, HE2.out⟩
  subst hz0'
  have hM : ValidM M := Classical.byContradiction fun h => by rw [askV_bad h] at hz; cases hz
  rw [okT_0 rfl] at HK
  have HVM := Lib.hid hM
  have hlen := truthsL_len hM HF.out M.wrong
  have hn7 := hM.nr
  have HPO := Lib.hid (fun t (h : t ∈ truthsL M M.wrong) => (⟨truthsL_ok hM h, (truth_zero h).2⟩ : PlayOK t.1 t.2 ∧ t.2.length = M.weeks.length))
  have HA := Lib.hid (show alwA M all = pickTo (alwF M (truthsL M M.wrong) all) M.reads.length from okL_0 hz.symm _)
  obtain ⟨T, hT⟩ : ∃ T, T = truthsL M M.wrong := ⟨_, rfl⟩
  rw [← hT] at HK HPO HA hlen
  clear hT hM hz
  go_upto_region 4 with (go_at_call 64; refine HK.out.mono ?_; rintro e W ⟨q, cq, rfl, hE2, hq⟩)
  have hE := HE1.out.trans hE2
  have HE := Lib.hid hE
  have HTS := Lib.hid hq
  have HQW := Lib.hid (fun (z : World) (hz : Ext W z) => (⟨heap_ext3 HM0.out (hE2.trans hz), HV.out.ext (hE.trans hz)⟩ : z.heap[s0]? = some (.cells #[.slice p M.weeks.length c, .slice qq M.reads.length d, .int .i64 M.wrong] 25) ∧ MtV z (.agg #[.slice p M.weeks.length c, .slice qq M.reads.length d, .int .i64 M.wrong]) M))
  have b1 := cell_of_heap (HQW.out W (Ext.refl _)).1 1
  clear hE hE2 hq a0 a1 a2 HE1 HM0 HK
  go_wp2
  go_loopw [8, 9] (fun u i wr => ∃ k : Nat, k ≤ M.reads.length ∧ i = .int .i64 k ∧ Ext W wr ∧ wr.ownsRow W.heap.size 3 1 u (pickTo (alwF M T all) k).length (intVs (pickTo (alwF M T all) k))) (fun _ i _ => M.reads.length - (intOf i).toNat)
  case atStart => exact ⟨0, Nat.zero_le _, rfl, Ext.refl _, World.ownsRow_nil _ _ _ _⟩
  case round =>
    clear b1
    obtain ⟨k, hk, rfl, hE, hO⟩ := hrel
    obtain ⟨hh, hmv⟩ := HQW.out wr hE
    have HEW := Lib.hid hE
    have HO := Lib.hid hO
    have b1 := ExtW.cell (v := .slice qq M.reads.length d) (cell_of_heap hh 1)
    clear hE hO hh
    obtain ⟨x0, hx0⟩ := ExtW.of (Ext.refl wr)
    conv => arg 5; rw [hx0]
    clear hx0
    by_cases hlt : k < M.reads.length
    · have hlt' : (k : Int) < (M.reads.length : Int) := by omega
      have hrd := HVM.out.read _ (List.getElem_mem hlt)
      obtain ⟨b, o, rfl, hc0, hc1⟩ := (HRQ.out.ext (HE.out.trans HEW.out)).at2 k hlt
      have hgd := getD_at hlt
      obtain ⟨ra, hra⟩ : ∃ ra : Nat, M.reads[k].1 = ra := ⟨M.reads[k].1.toNat, by omega⟩
      obtain ⟨rb, hrb⟩ : ∃ rb, M.reads[k].2 = rb := ⟨_, rfl⟩
      have HRT := Lib.hid (fun t => (by unfold rightT; rw [hgd, hra, hrb, Int.toNat_natCast] : rightT M k t = decide (dOf t.1 t.2 ra % 100 = rb)))
      rw [hra] at hc0 hrd
      rw [hrb] at hc1
      have k0 := ExtW.cell hc0
      have k1 := ExtW.cell hc1
      have HRD := Lib.hid hrd
      clear hmv hgd hra hrb hrd hc0 hc1
      have HPL := Lib.hid (pickTo_succ (alwF M T all) k)
      have hpl := pickTo_len (alwF M T all) k
      have HRS := Lib.hid (fun j (h : j < T.length) => rightN_succ M k h)
      have HRL := Lib.hid (fun j => rightN_le M k T j)
      have hfa : alwF M T all k = (if all then (rightN M k T T.length == T.length) else (rightN M k T T.length == 0)) := rfl
      obtain ⟨fb, hfb⟩ : ∃ f, f = alwF M T all k := ⟨_, rfl⟩
      rw [← hfb] at hfa
      have HFA := Lib.hid hfa
      have HFB := Lib.hid hfb
      obtain ⟨L0, hL0⟩ : ∃ L0, L0 = pickTo (alwF M T all) k := ⟨_, rfl⟩
      rw [← hL0] at hpl HO HPL
      have HL0 := Lib.hid hL0
      clear hfa hfb hL0
      go_upto_region 10 with (fail)
      go_wp2
      go_loopw [10, 11] (fun r i w1 => ∃ j : Nat, j ≤ T.length ∧ r = .int .i64 (rightN M k T j : Nat) ∧ i = .int .i64 j ∧ ∃ x : ExtW wr, w1 = x.w) (fun _ i _ => T.length - (intOf i).toNat)
      case atStart => exact ⟨0, Nat.zero_le _, rfl, rfl, x0, rfl⟩
      case round =>
        clear x0
        obtain ⟨j, hj, rfl, rfl, x, rfl⟩ := hrel
        have hrl := HRL.out j
        by_cases hlt2 : j < T.length
        · have hlt2' : (j : Int) < (T.length : Int) := by omega
          obtain ⟨b2, o2, q2, c2, rfl, ht0, ht1, ht2⟩ := HTS.out j hlt2
          have t0 := ExtW.cell (HEW.out.cell ht0)
          have t1 := ExtW.cell (HEW.out.cell ht1)
          have HT2 := Lib.hid ht2
          have hpo := HPO.out _ (List.getElem_mem hlt2)
          have hrt := HRT.out T[j]
          have hrs := HRS.out j hlt2
          obtain ⟨st, hst⟩ : ∃ s, s = T[j].1 := ⟨_, rfl⟩
          obtain ⟨pl, hpl2⟩ : ∃ s, s = T[j].2 := ⟨_, rfl⟩
          rw [← hst] at t0 hrt hpo
          rw [← hpl2] at t1 hrt hpo HT2
          have hri := fun x : ExtW wr => ExtW.call (x := x) (rIsRight04 st pl hpo.1 ra rb (by have := HRD.out; have := hpo.2; omega) _ x.w ⟨q2, c2, rfl, HT2.out.ext (HEW.out.trans x.h)⟩)
          rw [← hrt] at hri
          obtain ⟨n, hn⟩ : ∃ n, n = rightN M k T j := ⟨_, rfl⟩
          rw [← hn] at hrl hrs
          rw [← hn]
          cases hb : rightT M k T[j]
          · rw [hb] at hri hrs
            have HRI := Lib.hid hri
            have HSU := Lib.hid hrs
            clear ht0 ht1 ht2 hpo hrt hrs hst hpl2 hri hb hn
            go_upto_region 12 with (fail)
            refine wp_region_extW (by kernel_rfl) (by kernel_rfl) ?_
            repeat (go_big_quiet_step ((go_at_call 52; exact HRI.out _)))
            refine wpQuiet_nil ?_
            rintro _ ⟨x2, rfl⟩
            go_wp2
            go_roundw
            case rel => exact ⟨j + 1, by omega, by rw [HSU.out]; simp, by simp, x2, rfl⟩
            case measure => simp [intOf]; omega
          · rw [hb] at hri hrs
            have HRI := Lib.hid hri
            have HSU := Lib.hid hrs
            have hwn : IntKind.i64.wrap ((n : Int) + 1) = (n : Int) + 1 := IntWalk.i64_in _ (by omega)
            clear ht0 ht1 ht2 hpo hrt hrs hst hpl2 hri hb hn
            go_upto_region 12 with (fail)
            refine wp_region_extW (by kernel_rfl) (by kernel_rfl) ?_
            repeat (go_big_quiet_step ((go_at_call 52; exact HRI.out _)))
            refine wpQuiet_nil ?_
            rintro _ ⟨x2, rfl⟩
            go_wp2
            go_roundw
            case rel => exact ⟨j + 1, by omega, by rw [HSU.out]; simp, by simp, x2, rfl⟩
            case measure => simp [intOf]; omega
        · obtain rfl : j = T.length := by omega
          obtain ⟨n, hn⟩ : ∃ n, n = rightN M k T T.length := ⟨_, rfl⟩
          have hfa := HFA.out
          rw [← hn] at hfa hrl
          rw [← hn]
          have HO1 := Lib.hid (ownsRow_ext HO.out x.h)
          have HE1 := Lib.hid ((HE.out.trans HEW.out).trans x.h)
          have HNN := Lib.hid hn
          clear hn
          cases all <;> cases fb
          · have h1 : ¬n = 0 := by intro e; rw [e] at hfa; cases hfa
            have h2 : ((n : Int) == 0) = false := by rw [beq_eq_false_iff_ne]; omega
            have HSN := Lib.hid (show pickTo (alwF M T false) (k + 1) = L0 from by rw [HPL.out, ← HFB.out]; simp)
            clear hfa
            go_wp2
            go_roundw
            case rel => exact ⟨k + 1, by omega, by simp, HEW.out.trans x.h, by rw [HSN.out]; exact HO1.out⟩
            case measure => simp [intOf]; omega
          · obtain rfl : n = 0 := by have := hfa.symm; simpa using this
            have HSN := Lib.hid (show pickTo (alwF M T false) (k + 1) = L0 ++ [(k : Int)] from by rw [HPL.out, ← HFB.out]; simp)
            have HEX := Lib.hid x.h
            obtain ⟨w2, hw2⟩ : ∃ w2, w2 = x.w := ⟨_, rfl⟩
            rw [← hw2] at HO1 HE1 HEX ⊢
            have hsz := (HEW.out.trans HEX.out).size
            clear hfa hw2 b1 k0 k1
            go_wp2_with (at_builtin; refine wpList_append_lies _ rfl (.tmp 60) (.tmp 62) 31 rfl W.heap.size 3 i0 (.int .i64 0) 1 8 Tryd.underlying31 hi hz0 hz1 hz2 rfl (by decide) _ L0.length _ rfl (HO1.out.alloc _) ⟨w2.heap.size, 0, none⟩ 1 1 [.int .i64 (k : Int)] rfl rfl (hnewsE (Ext.refl _) rfl) (one_int _) (by decide) ?c3 ?c4 ?c5 (w2.heap.size + 1) (size_alloc _ _) ?_)
            case c3 => unfold maxLen; omega
            case c4 => omega
            case c5 => first | omega | (rw [size_alloc]; omega)
            intro g4 cap4 w4 hown4 hgr4 hat4 hlt4
            have hE4 : Ext W w4 := Below.grown (((HEW.out.trans HEX.out)).alloc _) hgr4 (by rw [size_alloc]; have := (HEW.out.trans HEX.out).size; omega) (fun j hj => (HO1.out.lt j hj).1)
            have HO4 := Lib.hid hown4
            have HE4 := Lib.hid hE4
            clear hown4 hgr4 hat4 hlt4 hE4 hsz
            go_wp2
            go_roundw
            case rel => exact ⟨k + 1, by omega, by simp, HE4.out, by rw [HSN.out, intVs_snoc, List.length_append]; exact HO4.out⟩
            case measure => simp [intOf]; omega
          · have h1 : ¬n = T.length := by intro e; rw [e] at hfa; simp at hfa
            have h2 : ((n : Int) == (T.length : Int)) = false := by rw [beq_eq_false_iff_ne]; omega
            have HSN := Lib.hid (show pickTo (alwF M T true) (k + 1) = L0 from by rw [HPL.out, ← HFB.out]; simp)
            clear hfa
            go_wp2
            go_roundw
            case rel => exact ⟨k + 1, by omega, by simp, HEW.out.trans x.h, by rw [HSN.out]; exact HO1.out⟩
            case measure => simp [intOf]; omega
          · obtain rfl : n = T.length := by have := hfa.symm; simpa using this
            have HSN := Lib.hid (show pickTo (alwF M T true) (k + 1) = L0 ++ [(k : Int)] from by rw [HPL.out, ← HFB.out]; simp)
            have HEX := Lib.hid x.h
            obtain ⟨w2, hw2⟩ : ∃ w2, w2 = x.w := ⟨_, rfl⟩
            rw [← hw2] at HO1 HE1 HEX ⊢
            have hsz := (HEW.out.trans HEX.out).size
            clear hfa hw2 b1 k0 k1
            go_wp2_with (at_builtin; refine wpList_append_lies _ rfl (.tmp 60) (.tmp 62) 31 rfl W.heap.size 3 i0 (.int .i64 0) 1 8 Tryd.underlying31 hi hz0 hz1 hz2 rfl (by decide) _ L0.length _ rfl (HO1.out.alloc _) ⟨w2.heap.size, 0, none⟩ 1 1 [.int .i64 (k : Int)] rfl rfl (hnewsE (Ext.refl _) rfl) (one_int _) (by decide) ?c3 ?c4 ?c5 (w2.heap.size + 1) (size_alloc _ _) ?_)
            case c3 => unfold maxLen; omega
            case c4 => omega
            case c5 => first | omega | (rw [size_alloc]; omega)
            intro g4 cap4 w4 hown4 hgr4 hat4 hlt4
            have hE4 : Ext W w4 := Below.grown (((HEW.out.trans HEX.out)).alloc _) hgr4 (by rw [size_alloc]; have := (HEW.out.trans HEX.out).size; omega) (fun j hj => (HO1.out.lt j hj).1)
            have HO4 := Lib.hid hown4
            have HE4 := Lib.hid hE4
            clear hown4 hgr4 hat4 hlt4 hE4 hsz
            go_wp2
            go_roundw
            case rel => exact ⟨k + 1, by omega, by simp, HE4.out, by rw [HSN.out, intVs_snoc, List.length_append]; exact HO4.out⟩
            case measure => simp [intOf]; omega
    · obtain rfl : k = M.reads.length := by omega
      go_wp2
      go_ret2
      exact ⟨_, by rw [show askV M true = 0 from HZ.out.symm]; rfl, by rw [HA.out]; exact ownsRow_base (ownsRow_ext HO.out x0.h) HE.out.size, (HE.out.trans HEW.out).trans x0.h⟩
set_option maxRecDepth 20000 in
theorem rStrange04 (M : Mt) (hf : farB M = false) (v : Value) (w : World) (hv : MtV w v M) :
    Calls Tryd.prog 39 #[v] w (RetL (strangeA M) (askV M true) w) := by
  have HV := Lib.hid hv
  have HAL := Lib.hid (fun y (h : Ext w y) => ralways04 M hf false _ y (hv.ext h))
  rw [← strange_ref M] at HAL
  obtain ⟨p, c, qq, d, rfl, hp, hq⟩ := hv
  clear hp hq hf
  go_enter Tryd.func39, Tryd.ntmps39
  go_upto_region 1 with (fail)
  obtain ⟨s0, hs0⟩ : ∃ s0, s0 = w.heap.size := ⟨_, rfl⟩
  obtain ⟨W, hW⟩ : ∃ W, W = w.alloc (.cells #[.slice p M.weeks.length c, .slice qq M.reads.length d, .int .i64 M.wrong] 25) := ⟨_, rfl⟩
  have m0 : W.heap[s0]? = some (.cells #[.slice p M.weeks.length c, .slice qq M.reads.length d, .int .i64 M.wrong] 25) := by rw [hs0, hW]; exact heap_new _ _
  have hE : Ext w W := by rw [hW]; exact (by repeat (first | exact Ext.refl _ | assumption | refine Ext.drewN ?_ _ | refine Ext.drew ?_ | refine Ext.alloc ?_ _))
  rw [← hs0, ← hW]
  have a0 := cell_of_heap m0 0
  have a1 := cell_of_heap m0 1
  have a2 := cell_of_heap m0 2
  have HE := Lib.hid hE
  have HA := Lib.hid (HAL.out W hE)
  clear hW m0 hE hs0
  go_wp2_with (go_at_call 74; refine HA.out.mono ?_; rintro e w2 ⟨u, rfl, hO, hE2⟩)
  go_ret2
  exact ⟨u, rfl, ownsRow_base hO HE.out.size, HE.out.trans hE2⟩

set_option maxRecDepth 20000 in
theorem rSure04 (M : Mt) (hf : farB M = false) (v : Value) (w : World) (hv : MtV w v M) :
    Calls Tryd.prog 41 #[v] w (RetL (sureA M) (askV M true) w) := by
  have HV := Lib.hid hv
  have HAL := Lib.hid (fun y (h : Ext w y) => ralways04 M hf true _ y (hv.ext h))
  rw [← sure_ref M] at HAL
  obtain ⟨p, c, qq, d, rfl, hp, hq⟩ := hv
  clear hp hq hf
  go_enter Tryd.func41, Tryd.ntmps41
  go_upto_region 1 with (fail)
  obtain ⟨s0, hs0⟩ : ∃ s0, s0 = w.heap.size := ⟨_, rfl⟩
  obtain ⟨W, hW⟩ : ∃ W, W = w.alloc (.cells #[.slice p M.weeks.length c, .slice qq M.reads.length d, .int .i64 M.wrong] 25) := ⟨_, rfl⟩
  have m0 : W.heap[s0]? = some (.cells #[.slice p M.weeks.length c, .slice qq M.reads.length d, .int .i64 M.wrong] 25) := by rw [hs0, hW]; exact heap_new _ _
  have hE : Ext w W := by rw [hW]; exact (by repeat (first | exact Ext.refl _ | assumption | refine Ext.drewN ?_ _ | refine Ext.drew ?_ | refine Ext.alloc ?_ _))
  rw [← hs0, ← hW]
  have a0 := cell_of_heap m0 0
  have a1 := cell_of_heap m0 1
  have a2 := cell_of_heap m0 2
  have HE := Lib.hid hE
  have HA := Lib.hid (HAL.out W hE)
  clear hW m0 hE hs0
  go_wp2_with (go_at_call 74; refine HA.out.mono ?_; rintro e w2 ⟨u, rfl, hO, hE2⟩)
  go_ret2
  exact ⟨u, rfl, ownsRow_base hO HE.out.size, HE.out.trans hE2⟩
end Go.Proofs.YtimelbcfaniifaaDoor
