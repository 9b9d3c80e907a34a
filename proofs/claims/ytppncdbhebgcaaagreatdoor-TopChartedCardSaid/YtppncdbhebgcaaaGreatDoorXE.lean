
/- The walks of fewest and here. The walk of wrongs. The walk of least. The walk of Check. The walks of ask and Fewest. The walk of can. The walks of readings, Strange and Sure. -/
import Derived.Test.YtppncdbhebgcaaaGreatDoorXD
import Derived.Test.YtppncdbhebgcaaaGreatDoorXB
import Derived.Test.YtppncdbhebgcaaaGreatDoorXC
import Derived.Test.YtppncdbhebgcaaaGreatDoorXA
namespace Go.Proofs.YtppncdbhebgcaaaGreatDoor
open Go.RowKit

/-- The first set that is not empty. -/
def fewQ (q : Nat → Nat) : Int := match (List.range 8).find? (fun c => decide (0 < cnt 1536 (q c))) with
  | some c => (c : Int)
  | none => -1
theorem find_range {p : Nat → Bool} {n k : Nat} (hk : k < n) (h : p k = true) (h2 : ∀ c, c < k → p c = false) : (List.range n).find? p = some k := by
  rw [List.find?_range_eq_some]
  refine ⟨h, by simpa using hk, fun c hc => by simp [h2 c hc]⟩
theorem fewQ_at {q : Nat → Nat} {k : Nat} (hk : k < 8) (h : 0 < cnt 1536 (q k)) (h2 : ∀ c, c < k → cnt 1536 (q c) = 0) : fewQ q = k := by
  unfold fewQ
  rw [find_range hk (by simpa using h) (fun c hc => by simp [h2 c hc])]
theorem fewQ_none {q : Nat → Nat} (h2 : ∀ c, c < 8 → cnt 1536 (q c) = 0) : fewQ q = -1 := by
  unfold fewQ
  have : (List.range 8).find? (fun c => decide (0 < cnt 1536 (q c))) = none := by
    rw [List.find?_eq_none]
    intro c hc
    simp [h2 c (List.mem_range.1 hc)]
  rw [this]

set_option maxRecDepth 20000 in
set_option maxHeartbeats 3200000 in
theorem fewest04 (q : Nat → Nat) (b : Nat) (t : TypeId) (w : World) (hB : Blk w b t 192 .u64 (pF q)) :
    Calls Tryz.prog 149 #[.pointer (some ⟨b, 0, none⟩)] w (RetE (.int .i64 (fewQ q)) w) := by
  have HB := Lib.hid hB
  clear hB
  go_enter Tryz.func149, Tryz.ntmps149
  go_wp2
  go_loopw [4] (fun i wr => ∃ k : Nat, k ≤ 8 ∧ i = .int .i64 k ∧ Ext w wr ∧ ∀ c, c < k → cnt 1536 (q c) = 0) (fun i _ => 8 - (intOf i).toNat)
  case atStart => exact ⟨0, by omega, rfl, Ext.refl _, fun c h => by omega⟩
  case round =>
    obtain ⟨k, hk, rfl, hE, hz⟩ := hrel
    have HE := Lib.hid hE
    have HZ := Lib.hid hz
    clear hE hz
    by_cases hlt : k < 8
    · have hlt' : (k : Int) < 8 := by omega
      have HBR := Lib.hid (HB.out.ext HE.out)
      have HM := Lib.hid (many04 (q k) wr)
      unfold setV at HM
      by_cases hc : 0 < cnt 1536 (q k)
      · have HF := Lib.hid (fewQ_at hlt hc HZ.out)
        obtain ⟨z, hz⟩ : ∃ z, z = cnt 1536 (q k) := ⟨_, rfl⟩
        rw [← hz] at HM hc
        have hc' : decide ((0 : Int) < (z : Int)) = true := decide_eq_true (by omega)
        have hc2 : decide (0 < z) = true := decide_eq_true hc
        clear hz
        go_wp2_with (first
          | (refine guardL (.load 137 (.tmp 10)) rfl ?_; refine wpList_loadB 137 _ _ Tryz.underlying137 rfl iSet rfl rfl rfl HBR.out (by omega) ?_; first | rw [pF_row'] | rw [pF_row])
          | (go_at_call 166; refine HM.out.mono ?_; rintro e w2 ⟨rfl, hE2⟩))
        go_ret
        exact RetE.fin (HE.out.trans hE2) (by rw [HF.out]; rfl)
      · have hc0 : cnt 1536 (q k) = 0 := by omega
        rw [hc0] at HM
        have HZ2 := Lib.hid (show ∀ c, c < k + 1 → cnt 1536 (q c) = 0 from fun c h => by
          by_cases e : c = k
          · rw [e]; exact hc0
          · exact HZ.out c (by omega))
        clear hc hc0 HZ
        go_wp2_with (first
          | (refine guardL (.load 137 (.tmp 10)) rfl ?_; refine wpList_loadB 137 _ _ Tryz.underlying137 rfl iSet rfl rfl rfl HBR.out (by omega) ?_; first | rw [pF_row'] | rw [pF_row])
          | (go_at_call 166; refine HM.out.mono ?_; rintro e w2 ⟨rfl, hE2⟩))
        go_roundw
        case rel => exact ⟨k + 1, by omega, by simp, HE.out.trans hE2, HZ2.out⟩
        case measure => simp [intOf]; omega
    · obtain rfl : k = 8 := by omega
      have HF := Lib.hid (fewQ_none HZ.out)
      go_wp2
      go_ret
      exact RetE.fin HE.out (by rw [HF.out]; rfl)

/-- how many of the first readings of a number of weeks do not show a number -/
def hereTo (M : Mt) (a sh : Int) (k : Nat) : Nat := (M.reads.take k).countP (fun r => decide (r.1 = a) && decide (sh ≠ r.2))
theorem hereTo_all (M : Mt) (a : Nat) (sh : Int) : hereTo M a sh M.reads.length = hereW M a sh := by unfold hereTo hereW; rw [List.take_length]
theorem hereTo_succ (M : Mt) (a sh : Int) {k : Nat} (h : k < M.reads.length) : hereTo M a sh (k + 1) = hereTo M a sh k + (if M.reads[k].1 = a ∧ ¬M.reads[k].2 = sh then 1 else 0) := by
  unfold hereTo
  rw [List.take_add_one, List.getElem?_eq_getElem h, List.countP_append]
  congr 1
  by_cases e : M.reads[k].1 = a
  · by_cases e2 : M.reads[k].2 = sh
    · simp [e, e2]
    · have e3 : ¬sh = M.reads[k].2 := fun h => e2 h.symm
      simp [e, e2, e3]
  · simp [e]
theorem hereTo_le (M : Mt) (a sh : Int) (k : Nat) : hereTo M a sh k ≤ k := by
  unfold hereTo
  exact Nat.le_trans List.countP_le_length (by rw [List.length_take]; omega)

set_option maxRecDepth 20000 in
set_option maxHeartbeats 3200000 in
theorem here04 (M : Mt) (a : Nat) (sh : Int) (p qq : Option Addr) (c d : Nat) (w : World) (hq : PairsAt w qq M.reads) (hn : M.reads.length ≤ 100) :
    Calls Tryz.prog 151 #[.agg #[.slice p M.weeks.length c, .slice qq M.reads.length d, .int .i64 M.wrong], .int .i64 a, .int .i64 sh] w (RetE (.int .i64 (hereW M a sh)) w) := by
  have HQ := Lib.hid hq
  clear hq
  go_enter Tryz.func151, Tryz.ntmps151
  go_upto_region 1 with (fail)
  obtain ⟨W, hW⟩ : ∃ W, W = w.alloc (.cells #[.slice p M.weeks.length c, .slice qq M.reads.length d, .int .i64 M.wrong] 55) := ⟨_, rfl⟩
  have hs : W.heap[w.heap.size]? = some (.cells #[.slice p M.weeks.length c, .slice qq M.reads.length d, .int .i64 M.wrong] 55) := by rw [hW]; exact heap_new _ _
  have hE : Ext w W := by rw [hW]; exact (Ext.refl w).alloc _
  have c1 : W.cell? ⟨w.heap.size, 1, none⟩ = some (.slice qq M.reads.length d) := cell_of_heap hs 1
  rw [← hW]
  have HE := Lib.hid hE
  clear hW hs hE
  go_wp2
  go_loopw [7, 13] (fun n i wr => ∃ k : Nat, k ≤ M.reads.length ∧ i = .int .i64 k ∧ n = .int .i64 (hereTo M a sh k) ∧ Ext w wr) (fun _ i _ => M.reads.length - (intOf i).toNat)
  case atStart => exact ⟨0, by omega, rfl, rfl, HE.out⟩
  case round =>
    obtain ⟨k, hk, rfl, rfl, hE⟩ := hrel
    have HER := Lib.hid hE
    clear hE c1
    by_cases hlt : k < M.reads.length
    · have hlt' : (k : Int) < (M.reads.length : Int) := by omega
      obtain ⟨rb, ro, hqq, r0, r1⟩ := HQ.out.ext HER.out k hlt
      subst hqq
      have hsu := hereTo_succ M a sh hlt
      have hle := hereTo_le M a sh k
      obtain ⟨x0, hx0⟩ : ∃ x : Int, x = M.reads[k].1 := ⟨_, rfl⟩
      obtain ⟨x1, hx1⟩ : ∃ x : Int, x = M.reads[k].2 := ⟨_, rfl⟩
      rw [← hx0, ← hx1] at hsu
      rw [← hx0] at r0
      rw [← hx1] at r1
      clear hx0 hx1
      go_upto_region 5 with (fail)
      have hE5 : Ext w (wr.alloc (.cells #[.int .i64 x0, .int .i64 x1] 108)) := HER.out.alloc _
      have hs5 : (wr.alloc (.cells #[.int .i64 x0, .int .i64 x1] 108)).heap[wr.heap.size]? = some (.cells #[.int .i64 x0, .int .i64 x1] 108) := heap_new _ _
      obtain ⟨rc, hrc⟩ : ∃ rc, rc = wr.heap.size := ⟨_, rfl⟩
      rw [← hrc] at hs5 ⊢
      generalize World.alloc _ _ = W5 at hE5 hs5 ⊢
      have d0 : W5.cell? ⟨rc, 0, none⟩ = some (.int .i64 x0) := cell_of_heap hs5 0
      have d1 : W5.cell? ⟨rc, 1, none⟩ = some (.int .i64 x1) := cell_of_heap hs5 1
      have HE5 := Lib.hid hE5
      have HSU := Lib.hid hsu
      clear hE5 hs5 hrc hsu r0 r1 hlt'
      by_cases e0 : x0 = (a : Int)
      · subst e0
        by_cases e1 : x1 = sh
        · subst e1
          have hv := HSU.out
          rw [if_neg (by simp)] at hv
          have HV := Lib.hid hv
          clear hv HSU
          go_wp2
          go_roundw
          case rel => exact ⟨k + 1, by omega, by simp, by rw [HV.out]; simp, HE5.out⟩
          case measure => simp [intOf]; omega
        · have hv := HSU.out
          rw [if_pos ⟨rfl, e1⟩] at hv
          have HV := Lib.hid hv
          have g1 : (x1 == sh) = false := by simpa using e1
          have g2 : decide (x1 = sh) = false := by simpa using e1
          clear hv HSU e1
          go_wp2
          go_roundw
          case rel => exact ⟨k + 1, by omega, by simp, by rw [HV.out]; simp, HE5.out⟩
          case measure => simp [intOf]; omega
      · have hv := HSU.out
        rw [if_neg (by intro h; exact e0 h.1)] at hv
        have HV := Lib.hid hv
        have g1 : (x0 == (a : Int)) = false := by simpa using e0
        have g2 : decide (x0 = (a : Int)) = false := by simpa using e0
        clear hv HSU e0
        go_wp2
        go_roundw
        case rel => exact ⟨k + 1, by omega, by simp, by rw [HV.out]; simp, HE5.out⟩
        case measure => simp [intOf]; omega
    · obtain rfl : k = M.reads.length := by omega
      go_wp2
      go_ret
      exact RetE.fin HER.out (by rw [hereTo_all]; rfl)
end Go.Proofs.YtppncdbhebgcaaaGreatDoor
namespace Go.Proofs.YtppncdbhebgcaaaGreatDoor
open Go.RowKit

def wrongsF (M : Mt) (a : Nat) (sh : Int) : Int := fewQ (beforeF M a sh a) + fewQ (aheadF M a sh (M.weeks.length - a)) + hereW M a sh
theorem fewQ_bd (q : Nat → Nat) : -1 ≤ fewQ q ∧ fewQ q ≤ 7 := by
  unfold fewQ
  cases h : (List.range 8).find? (fun c => decide (0 < cnt 1536 (q c))) with
  | none => simp
  | some c =>
    have := List.mem_range.1 (List.mem_of_find?_eq_some h)
    simp only
    omega

set_option maxRecDepth 20000 in
set_option maxHeartbeats 3200000 in
theorem wrongs04 (M : Mt) (hM : ValidM M) (a mb : Nat) (mt : TypeId) (sh : Int) (p qq : Option Addr) (c d : Nat) (w : World)
    (hp : PairsAt w p M.weeks) (hq : PairsAt w qq M.reads) (hm : Blk w mb mt 2400 .u64 mskF) (ha : a ≤ M.weeks.length) (hs0 : 0 ≤ sh) (hs1 : sh ≤ 99) :
    Calls Tryz.prog 146 #[.agg #[.slice p M.weeks.length c, .slice qq M.reads.length d, .int .i64 M.wrong], .int .i64 a, .int .i64 sh, .pointer (some ⟨mb, 0, none⟩)] w (RetE (.int .i64 (wrongsF M a sh)) w) := by
  have HBF := Lib.hid (fun y (h : Ext w y) => before04 M hM a mb mt sh p qq c d y (hp.ext h) (hq.ext h) (hm.ext h) ha hs0 hs1)
  have HAF := Lib.hid (fun y (h : Ext w y) => ahead04 M hM a M.weeks.length mb mt sh p qq c d y (hp.ext h) (hq.ext h) (hm.ext h) ha (Nat.le_refl _) hs0 hs1)
  have HHF := Lib.hid (fun y (h : Ext w y) => here04 M a sh p qq c d y (hq.ext h) (by have := hM.nr; omega))
  have hn7 := hM.nr
  have hn5 := hM.nw
  have hhl : hereW M a sh ≤ M.reads.length := List.countP_le_length
  have hb1 := fewQ_bd (beforeF M a sh a)
  have hb2 := fewQ_bd (aheadF M a sh (M.weeks.length - a))
  clear hp hq hm hM
  have HW := Lib.hid (show wrongsF M a sh = fewQ (beforeF M a sh a) + fewQ (aheadF M a sh (M.weeks.length - a)) + hereW M a sh from rfl)
  go_enter Tryz.func146, Tryz.ntmps146
  go_upto_region 1 with (fail)
  obtain ⟨s0, hs0'⟩ : ∃ s0, s0 = w.heap.size := ⟨_, rfl⟩
  generalize hW : World.alloc _ _ = W
  have m0 : W.heap[s0]? = some (.cells #[.slice p M.weeks.length c, .slice qq M.reads.length d, .int .i64 M.wrong] 55) := by rw [hs0', ← hW]; exact heap_new _ _
  have hE : Ext w W := by rw [← hW]; exact (by repeat (first | exact Ext.refl _ | assumption | refine Ext.drewN ?_ _ | refine Ext.drew ?_ | refine Ext.alloc ?_ _))
  rw [← hs0']
  have m00 : W.cell? ⟨s0, 0, none⟩ = some (.slice p M.weeks.length c) := cell_of_heap m0 0
  have m01 : W.cell? ⟨s0, 1, none⟩ = some (.slice qq M.reads.length d) := cell_of_heap m0 1
  have m02 : W.cell? ⟨s0, 2, none⟩ = some (.int .i64 M.wrong) := cell_of_heap m0 2
  have HCE := Lib.hid (fun y (h : Ext W y) => (⟨h.cell m00, h.cell m01, h.cell m02, hE.trans h⟩ :
    y.cell? ⟨s0, 0, none⟩ = some (.slice p M.weeks.length c) ∧ y.cell? ⟨s0, 1, none⟩ = some (.slice qq M.reads.length d) ∧ y.cell? ⟨s0, 2, none⟩ = some (.int .i64 M.wrong) ∧ Ext w y))
  have HWS := Lib.hid (show w.heap.size ≤ s0 ∧ s0 < W.heap.size from ⟨by omega, lt_of_cell m00⟩)
  clear hW m0 hE m00 m01 m02 hs0'
  refine wp_region_facts 15 [[], [], [], [], [0, 1, 2, 3], [], [], [], [7], [8], [], [], [5, 6, 9, 10, 11], [], []] [4, 12, 13, 14] Ext (FL [Is (.agg #[.slice p M.weeks.length c, .slice qq M.reads.length d, .int .i64 M.wrong]), Is (.int .i64 (a : Int)), Is (.int .i64 sh), Is (.pointer (some ⟨mb, 0, none⟩)), Is (.agg (rowV 192 .u64 (pF (beforeF M a sh a)))), Is (.agg #[.slice p M.weeks.length c, .slice qq M.reads.length d, .int .i64 M.wrong]), Is (.int .i64 (a : Int)), Is (.pointer (some ⟨s0, 0, none⟩)), Is (.slice p M.weeks.length c), Is (.int .i64 (M.weeks.length : Int)), Is (.int .i64 sh), Is (.pointer (some ⟨mb, 0, none⟩)), Is (.agg (rowV 192 .u64 (pF (aheadF M a sh (M.weeks.length - a))))), NewB 204 192 .u64, NewB 204 192 .u64]) (by kernel_rfl) (by kernel_rfl) Ext.refl (fun _ _ _ => Ext.trans) (fun _ _ => Ext.size) (FL.mono ⟨Is.mono, Is.mono, Is.mono, Is.mono, Is.mono, Is.mono, Is.mono, Is.mono, Is.mono, Is.mono, Is.mono, Is.mono, Is.mono, NewB.mono, NewB.mono, trivial⟩) ⟨?_, ?_, ?_, ?_, ?_, ?_, ?_, ?_, ?_, ?_, ?_, ?_, ?_, ?_, ?_, trivial⟩ ?_
  · refine opF_step ?_
    intro ys l0 h0 w' hr hf K hK
    clear hf
    obtain ⟨k0, k1, k2, k3⟩ := HCE.out w' ((Ext.refl W).drew.trans hr)
    simp only [fill, Act.put, dstO, List.take_succ_cons, List.take_zero, List.setIfInBounds_toArray, List.set_cons_zero, List.set_cons_succ, List.getElem?_cons_zero, Nat.zero_add, Nat.reduceAdd] at hK ⊢
    refine OpB.mk' ?_
    go_simp
    exact hK.out _ _ rfl (Ext.refl _)
  · refine opF_step ?_
    intro ys l0 h0 w' hr hf K hK
    clear hf
    simp only [fill, Act.put, dstO, List.take_succ_cons, List.take_zero, List.setIfInBounds_toArray, List.set_cons_zero, List.set_cons_succ, List.getElem?_cons_zero, List.getElem?_cons_succ, Nat.zero_add, Nat.reduceAdd] at hK ⊢
    refine OpB.mk' ?_
    go_simp
    exact hK.out _ _ rfl (Ext.refl _)
  · refine opF_step ?_
    intro ys l0 h0 w' hr hf K hK
    clear hf
    simp only [fill, Act.put, dstO, List.take_succ_cons, List.take_zero, List.setIfInBounds_toArray, List.set_cons_zero, List.set_cons_succ, List.getElem?_cons_zero, List.getElem?_cons_succ, Nat.zero_add, Nat.reduceAdd] at hK ⊢
    refine OpB.mk' ?_
    go_simp
    exact hK.out _ _ rfl (Ext.refl _)
  · refine opF_step ?_
    intro ys l0 h0 w' hr hf K hK
    clear hf
    simp only [fill, Act.put, dstO, List.take_succ_cons, List.take_zero, List.setIfInBounds_toArray, List.set_cons_zero, List.set_cons_succ, List.getElem?_cons_zero, List.getElem?_cons_succ, Nat.zero_add, Nat.reduceAdd] at hK ⊢
    refine OpB.mk' ?_
    go_simp
    exact hK.out _ _ rfl (Ext.refl _)
  · refine opF_step ?_
    intro ys l0 h0 w' hr hf K hK
    obtain ⟨f0, f1, f2, f3, -⟩ := hf
    have e0 : ys 0 = _ := f0
    have e1 : ys 1 = _ := f1
    have e2 : ys 2 = _ := f2
    have e3 : ys 3 = _ := f3
    obtain ⟨k0, k1, k2, k3⟩ := HCE.out w' ((Ext.refl W).drew.trans hr)
    simp only [fill, Act.put, dstO, List.take_succ_cons, List.take_zero, List.setIfInBounds_toArray, List.set_cons_zero, List.set_cons_succ, List.getElem?_cons_zero, List.getElem?_cons_succ, Nat.zero_add, Nat.reduceAdd] at hK ⊢
    simp only [e0, e1, e2, e3] at hK ⊢
    clear e0 e1 e2 e3 f0 f1 f2 f3
    refine OpB.mk' ?_
    go_simp
    refine (HBF.out w' k3).mono ?_
    rintro e w2 ⟨rfl, hE2⟩
    exact hK.out _ _ rfl hE2
  · refine opF_step ?_
    intro ys l0 h0 w' hr hf K hK
    clear hf
    obtain ⟨k0, k1, k2, k3⟩ := HCE.out w' ((Ext.refl W).drew.trans hr)
    simp only [fill, Act.put, dstO, List.take_succ_cons, List.take_zero, List.setIfInBounds_toArray, List.set_cons_zero, List.set_cons_succ, List.getElem?_cons_zero, List.getElem?_cons_succ, Nat.zero_add, Nat.reduceAdd] at hK ⊢
    refine OpB.mk' ?_
    go_simp
    exact hK.out _ _ rfl (Ext.refl _)
  · refine opF_step ?_
    intro ys l0 h0 w' hr hf K hK
    clear hf
    simp only [fill, Act.put, dstO, List.take_succ_cons, List.take_zero, List.setIfInBounds_toArray, List.set_cons_zero, List.set_cons_succ, List.getElem?_cons_zero, List.getElem?_cons_succ, Nat.zero_add, Nat.reduceAdd] at hK ⊢
    refine OpB.mk' ?_
    go_simp
    exact hK.out _ _ rfl (Ext.refl _)
  · refine opF_step ?_
    intro ys l0 h0 w' hr hf K hK
    clear hf
    simp only [fill, Act.put, dstO, List.take_succ_cons, List.take_zero, List.setIfInBounds_toArray, List.set_cons_zero, List.set_cons_succ, List.getElem?_cons_zero, List.getElem?_cons_succ, Nat.zero_add, Nat.reduceAdd] at hK ⊢
    refine OpB.mk' ?_
    go_simp
    exact hK.out _ _ rfl (Ext.refl _)
  · refine opF_step ?_
    intro ys l0 h0 w' hr hf K hK
    obtain ⟨f0, -⟩ := hf
    have e0 : ys 7 = _ := f0
    obtain ⟨k0, k1, k2, k3⟩ := HCE.out w' ((Ext.refl W).drew.trans hr)
    simp only [fill, Act.put, dstO, List.take_succ_cons, List.take_zero, List.setIfInBounds_toArray, List.set_cons_zero, List.set_cons_succ, List.getElem?_cons_zero, List.getElem?_cons_succ, Nat.zero_add, Nat.reduceAdd] at hK ⊢
    simp only [e0] at hK ⊢
    clear e0 f0
    refine OpB.mk' ?_
    go_simp
    exact hK.out _ _ rfl (Ext.refl _)
  · refine opF_step ?_
    intro ys l0 h0 w' hr hf K hK
    obtain ⟨f0, -⟩ := hf
    have e0 : ys 8 = _ := f0
    simp only [fill, Act.put, dstO, List.take_succ_cons, List.take_zero, List.setIfInBounds_toArray, List.set_cons_zero, List.set_cons_succ, List.getElem?_cons_zero, List.getElem?_cons_succ, Nat.zero_add, Nat.reduceAdd] at hK ⊢
    simp only [e0] at hK ⊢
    clear e0 f0
    refine OpB.mk' ?_
    go_simp
    exact hK.out _ _ rfl (Ext.refl _)
  · refine opF_step ?_
    intro ys l0 h0 w' hr hf K hK
    clear hf
    simp only [fill, Act.put, dstO, List.take_succ_cons, List.take_zero, List.setIfInBounds_toArray, List.set_cons_zero, List.set_cons_succ, List.getElem?_cons_zero, List.getElem?_cons_succ, Nat.zero_add, Nat.reduceAdd] at hK ⊢
    refine OpB.mk' ?_
    go_simp
    exact hK.out _ _ rfl (Ext.refl _)
  · refine opF_step ?_
    intro ys l0 h0 w' hr hf K hK
    clear hf
    simp only [fill, Act.put, dstO, List.take_succ_cons, List.take_zero, List.setIfInBounds_toArray, List.set_cons_zero, List.set_cons_succ, List.getElem?_cons_zero, List.getElem?_cons_succ, Nat.zero_add, Nat.reduceAdd] at hK ⊢
    refine OpB.mk' ?_
    go_simp
    exact hK.out _ _ rfl (Ext.refl _)
  · refine opF_step ?_
    intro ys l0 h0 w' hr hf K hK
    obtain ⟨f0, f1, f2, f3, f4, -⟩ := hf
    have e0 : ys 5 = _ := f0
    have e1 : ys 6 = _ := f1
    have e2 : ys 9 = _ := f2
    have e3 : ys 10 = _ := f3
    have e4 : ys 11 = _ := f4
    obtain ⟨k0, k1, k2, k3⟩ := HCE.out w' ((Ext.refl W).drew.trans hr)
    simp only [fill, Act.put, dstO, List.take_succ_cons, List.take_zero, List.setIfInBounds_toArray, List.set_cons_zero, List.set_cons_succ, List.getElem?_cons_zero, List.getElem?_cons_succ, Nat.zero_add, Nat.reduceAdd] at hK ⊢
    simp only [e0, e1, e2, e3, e4] at hK ⊢
    clear e0 e1 e2 e3 e4 f0 f1 f2 f3 f4
    refine OpB.mk' ?_
    go_simp
    refine (HAF.out w' k3).mono ?_
    rintro e w2 ⟨rfl, hE2⟩
    exact hK.out _ _ rfl hE2
  · refine opF_step ?_
    intro ys l0 h0 w' hr hf K hK
    clear hf
    simp only [fill, Act.put, dstO, List.take_succ_cons, List.take_zero, List.setIfInBounds_toArray, List.set_cons_zero, List.set_cons_succ, List.getElem?_cons_zero, List.getElem?_cons_succ, Nat.zero_add, Nat.reduceAdd] at hK ⊢
    refine OpB.mk' ?_
    go_simp
    (try rw [zero192])
    exact hK.out _ _ ⟨rfl, by simp only [size_alloc]; omega, Blk.new' rfl _ _ _ _⟩ (Ext.alloc (Ext.refl _) _)
  · refine opF_step ?_
    intro ys l0 h0 w' hr hf K hK
    clear hf
    simp only [fill, Act.put, dstO, List.take_succ_cons, List.take_zero, List.setIfInBounds_toArray, List.set_cons_zero, List.set_cons_succ, List.getElem?_cons_zero, List.getElem?_cons_succ, Nat.zero_add, Nat.reduceAdd] at hK ⊢
    refine OpB.mk' ?_
    go_simp
    (try rw [zero192])
    exact hK.out _ _ ⟨rfl, by simp only [size_alloc]; omega, Blk.new' rfl _ _ _ _⟩ (Ext.alloc (Ext.refl _) _)
  intro ys l0 h0 w2 hr hf hsp
  obtain ⟨f4, f12, f13, f14, -⟩ := hf
  have e4 : ys 4 = _ := f4
  have e12 : ys 12 = _ := f12
  obtain ⟨e13, lt13, bk13⟩ := f13
  obtain ⟨e14, lt14, bk14⟩ := f14
  simp only [fill, Act.put, List.take_succ_cons, List.take_zero, List.setIfInBounds_toArray, List.set_cons_zero, List.set_cons_succ, Nat.zero_add, Nat.reduceAdd, List.drop_succ_cons, List.drop_zero]
  rw [e4, e12, e13, e14]
  have ap13_14 : l0 13 ≠ l0 14 := by have := hsp.apart 13 14 (by omega) (by omega) (by omega); omega
  have sp13 := (hsp.le 13 (by omega)).1
  generalize l0 13 = p1 at bk13 lt13 sp13 ap13_14 ⊢
  have sp14 := (hsp.le 14 (by omega)).1
  generalize l0 14 = p2 at bk14 lt14 sp14 ap13_14 ⊢
  clear e4 f4 e12 f12 e13 e14 hsp
  have HE2 := Lib.hid ((Ext.refl W).drew.trans hr)
  have sz13 : W.heap.size ≤ p1 := sp13
  have sz14 : W.heap.size ≤ p2 := sp14
  refine wpList_storeB 204 _ _ iPaths rfl rfl rfl rfl bk13 (by omega) ?_
  refine wpList_storeB 204 _ _ iPaths rfl rfl rfl rfl (bk14.sets_ne (fun e => ap13_14 e.symm)) (by omega) ?_
  refine wpList_nil ?_
  have n1 := ((bk13.sets 0 (pF (beforeF M a sh a)) 192).congr (g := pF (beforeF M a sh a)) (fun j hj => by rw [if_pos (by omega), Nat.sub_zero])).sets_ne (c := p2) (o := 0) (vs := (rowV 192 .u64 (pF (aheadF M a sh (M.weeks.length - a)))).toList) ap13_14
  have n2 := ((bk14.sets_ne (c := p1) (o := 0) (vs := (rowV 192 .u64 (pF (beforeF M a sh a))).toList) (fun e => ap13_14 e.symm)).sets 0 (pF (aheadF M a sh (M.weeks.length - a))) 192).congr (g := pF (aheadF M a sh (M.weeks.length - a))) (fun j hj => by rw [if_pos (by omega), Nat.sub_zero])
  have hE3 : Ext W ((w2.setCells p1 0 (rowV 192 .u64 (pF (beforeF M a sh a))).toList).setCells p2 0 (rowV 192 .u64 (pF (aheadF M a sh (M.weeks.length - a)))).toList) := (HE2.out.setCells sz13 _ _).setCells sz14 _ _
  generalize World.setCells (World.setCells w2 _ _ _) _ _ _ = W3 at n1 n2 hE3 ⊢
  have HCE3 := Lib.hid (fun y (h : Ext W3 y) => HCE.out y (hE3.trans h))
  have N1 := Lib.hid n1
  have N2 := Lib.hid n2
  clear n1 n2 hE3 sz13 sz14 sp13 sp14 bk13 bk14 ap13_14 lt13 lt14 hr HE2 HCE HBF HAF
  have HF1 := Lib.hid (fun y (h : Ext W3 y) => fewest04 (beforeF M a sh a) p1 204 y (N1.out.ext h))
  have HF2 := Lib.hid (fun y (h : Ext W3 y) => fewest04 (aheadF M a sh (M.weeks.length - a)) p2 204 y (N2.out.ext h))
  obtain ⟨x1, hx1⟩ : ∃ x, x = fewQ (beforeF M a sh a) := ⟨_, rfl⟩
  obtain ⟨x2, hx2⟩ : ∃ x, x = fewQ (aheadF M a sh (M.weeks.length - a)) := ⟨_, rfl⟩
  obtain ⟨x3, hx3⟩ : ∃ x, x = hereW M a sh := ⟨_, rfl⟩
  rw [← hx1] at HF1 hb1 HW
  rw [← hx2] at HF2 hb2 HW
  rw [← hx3] at HHF hhl HW
  have z1 : IntKind.i64.wrap (x1 + x2) = x1 + x2 := IntWalk.i64_in _ (by omega)
  have z2 : IntKind.i64.wrap (x1 + x2 + (x3 : Int)) = x1 + x2 + (x3 : Int) := IntWalk.i64_in _ (by omega)
  clear hx1 hx2 hx3 N1 N2
  go_upto_region 2 with (fail)
  simp only [Act.put]
  refine wp_region_facts 8 [[], [], [0, 1], [], [], [], [3, 4, 5], [2, 6]] [7] Ext (FL [Is (.int .i64 x1), Is (.int .i64 x2), Is (.int .i64 (x1 + x2)), Is (.agg #[.slice p M.weeks.length c, .slice qq M.reads.length d, .int .i64 M.wrong]), Is (.int .i64 (a : Int)), Is (.int .i64 sh), Is (.int .i64 (x3 : Int)), Is (.int .i64 (x1 + x2 + (x3 : Int)))]) (by kernel_rfl) (by kernel_rfl) Ext.refl (fun _ _ _ => Ext.trans) (fun _ _ => Ext.size) (FL.mono ⟨Is.mono, Is.mono, Is.mono, Is.mono, Is.mono, Is.mono, Is.mono, Is.mono, trivial⟩) ⟨?_, ?_, ?_, ?_, ?_, ?_, ?_, ?_, trivial⟩ ?_
  · refine opF_step ?_
    intro ys l0 h0 w' hr hf K hK
    clear hf
    simp only [fill, Act.put, dstO, List.take_succ_cons, List.take_zero, List.setIfInBounds_toArray, List.set_cons_zero, List.set_cons_succ, List.getElem?_cons_zero, Nat.zero_add, Nat.reduceAdd] at hK ⊢
    refine OpB.mk' ?_
    go_simp
    refine (HF1.out w' ((Ext.refl W3).drew.trans hr)).mono ?_
    rintro e w2 ⟨rfl, hE2⟩
    exact hK.out _ _ rfl hE2
  · refine opF_step ?_
    intro ys l0 h0 w' hr hf K hK
    clear hf
    simp only [fill, Act.put, dstO, List.take_succ_cons, List.take_zero, List.setIfInBounds_toArray, List.set_cons_zero, List.set_cons_succ, List.getElem?_cons_zero, List.getElem?_cons_succ, Nat.zero_add, Nat.reduceAdd] at hK ⊢
    refine OpB.mk' ?_
    go_simp
    refine (HF2.out w' ((Ext.refl W3).drew.trans hr)).mono ?_
    rintro e w2 ⟨rfl, hE2⟩
    exact hK.out _ _ rfl hE2
  · refine opF_step ?_
    intro ys l0 h0 w' hr hf K hK
    obtain ⟨f0, f1, -⟩ := hf
    have e0 : ys 0 = _ := f0
    have e1 : ys 1 = _ := f1
    simp only [fill, Act.put, dstO, List.take_succ_cons, List.take_zero, List.setIfInBounds_toArray, List.set_cons_zero, List.set_cons_succ, List.getElem?_cons_zero, List.getElem?_cons_succ, Nat.zero_add, Nat.reduceAdd] at hK ⊢
    simp only [e0, e1] at hK ⊢
    clear e0 e1 f0 f1
    refine OpB.mk' ?_
    go_simp
    exact hK.out _ _ rfl (Ext.refl _)
  · refine opF_step ?_
    intro ys l0 h0 w' hr hf K hK
    clear hf
    obtain ⟨k0, k1, k2, k3⟩ := HCE3.out w' ((Ext.refl W3).drew.trans hr)
    simp only [fill, Act.put, dstO, List.take_succ_cons, List.take_zero, List.setIfInBounds_toArray, List.set_cons_zero, List.set_cons_succ, List.getElem?_cons_zero, List.getElem?_cons_succ, Nat.zero_add, Nat.reduceAdd] at hK ⊢
    refine OpB.mk' ?_
    go_simp
    exact hK.out _ _ rfl (Ext.refl _)
  · refine opF_step ?_
    intro ys l0 h0 w' hr hf K hK
    clear hf
    simp only [fill, Act.put, dstO, List.take_succ_cons, List.take_zero, List.setIfInBounds_toArray, List.set_cons_zero, List.set_cons_succ, List.getElem?_cons_zero, List.getElem?_cons_succ, Nat.zero_add, Nat.reduceAdd] at hK ⊢
    refine OpB.mk' ?_
    go_simp
    exact hK.out _ _ rfl (Ext.refl _)
  · refine opF_step ?_
    intro ys l0 h0 w' hr hf K hK
    clear hf
    simp only [fill, Act.put, dstO, List.take_succ_cons, List.take_zero, List.setIfInBounds_toArray, List.set_cons_zero, List.set_cons_succ, List.getElem?_cons_zero, List.getElem?_cons_succ, Nat.zero_add, Nat.reduceAdd] at hK ⊢
    refine OpB.mk' ?_
    go_simp
    exact hK.out _ _ rfl (Ext.refl _)
  · refine opF_step ?_
    intro ys l0 h0 w' hr hf K hK
    obtain ⟨f0, f1, f2, -⟩ := hf
    have e0 : ys 3 = _ := f0
    have e1 : ys 4 = _ := f1
    have e2 : ys 5 = _ := f2
    obtain ⟨k0, k1, k2, k3⟩ := HCE3.out w' ((Ext.refl W3).drew.trans hr)
    simp only [fill, Act.put, dstO, List.take_succ_cons, List.take_zero, List.setIfInBounds_toArray, List.set_cons_zero, List.set_cons_succ, List.getElem?_cons_zero, List.getElem?_cons_succ, Nat.zero_add, Nat.reduceAdd] at hK ⊢
    simp only [e0, e1, e2] at hK ⊢
    clear e0 e1 e2 f0 f1 f2
    refine OpB.mk' ?_
    go_simp
    refine (HHF.out w' k3).mono ?_
    rintro e w2 ⟨rfl, hE2⟩
    exact hK.out _ _ rfl hE2
  · refine opF_step ?_
    intro ys l0 h0 w' hr hf K hK
    obtain ⟨f0, f1, -⟩ := hf
    have e0 : ys 2 = _ := f0
    have e1 : ys 6 = _ := f1
    simp only [fill, Act.put, dstO, List.take_succ_cons, List.take_zero, List.setIfInBounds_toArray, List.set_cons_zero, List.set_cons_succ, List.getElem?_cons_zero, List.getElem?_cons_succ, Nat.zero_add, Nat.reduceAdd] at hK ⊢
    simp only [e0, e1] at hK ⊢
    clear e0 e1 f0 f1
    refine OpB.mk' ?_
    go_simp
    exact hK.out _ _ rfl (Ext.refl _)
  intro ys l0 h0 w2 hr hf hsp
  obtain ⟨f7, -⟩ := hf
  have e7 : ys 7 = _ := f7
  simp only [fill, Act.put, List.take_succ_cons, List.take_zero, List.setIfInBounds_toArray, List.set_cons_zero, List.set_cons_succ, Nat.zero_add, Nat.reduceAdd, List.drop_succ_cons, List.drop_zero]
  rw [e7]
  clear e7 f7 hsp
  have HE9 := Lib.hid ((Ext.refl W3).drew.trans hr)
  clear hr
  obtain ⟨-, -, -, hE9⟩ := HCE3.out _ HE9.out
  have HE9 := Lib.hid hE9
  clear hE9
  go_wp2
  go_ret
  exact RetE.fin HE9.out (by rw [HW.out]; rfl)
end Go.Proofs.YtppncdbhebgcaaaGreatDoor
namespace Go.Proofs.YtppncdbhebgcaaaGreatDoor
open Go.RowKit

def leastTo (M : Mt) (k : Nat) : Int := (List.range k).foldl (fun b (s : Nat) => min b (wrongsF M 0 s)) M.reads.length
theorem leastTo_succ (M : Mt) (k : Nat) : leastTo M (k + 1) = min (leastTo M k) (wrongsF M 0 k) := by
  unfold leastTo
  rw [List.range_succ, List.foldl_append]
  rfl
theorem wrongsF_bd (M : Mt) (a : Nat) (sh : Int) (h : M.reads.length ≤ 100) : -2 ≤ wrongsF M a sh ∧ wrongsF M a sh ≤ 200 := by
  unfold wrongsF
  have h1 := fewQ_bd (beforeF M a sh a)
  have h2 := fewQ_bd (aheadF M a sh (M.weeks.length - a))
  have h3 : hereW M a sh ≤ M.reads.length := List.countP_le_length
  omega

set_option maxRecDepth 20000 in
set_option maxHeartbeats 3200000 in
theorem least04 (M : Mt) (hM : ValidM M) (p qq : Option Addr) (c d : Nat) (w : World) (hp : PairsAt w p M.weeks) (hq : PairsAt w qq M.reads) :
    Calls Tryz.prog 123 #[.agg #[.slice p M.weeks.length c, .slice qq M.reads.length d, .int .i64 M.wrong]] w (RetE (.int .i64 (leastTo M 100)) w) := by
  have HP := Lib.hid hp
  have HQ := Lib.hid hq
  have HVM := Lib.hid hM
  have hn7 := hM.nr
  clear hp hq hM
  go_enter Tryz.func123, Tryz.ntmps123
  go_upto_region 1 with (fail)
  obtain ⟨s0, hs0'⟩ : ∃ s0, s0 = w.heap.size := ⟨_, rfl⟩
  generalize hW : World.alloc _ _ = W
  have m0 : W.heap[s0]? = some (.cells #[.slice p M.weeks.length c, .slice qq M.reads.length d, .int .i64 M.wrong] 55) := by rw [hs0', ← hW]; exact heap_new _ _
  have hE : Ext w W := by rw [← hW]; exact (by repeat (first | exact Ext.refl _ | assumption | refine Ext.drewN ?_ _ | refine Ext.drew ?_ | refine Ext.alloc ?_ _))
  rw [← hs0']
  have m00 : W.cell? ⟨s0, 0, none⟩ = some (.slice p M.weeks.length c) := cell_of_heap m0 0
  have m01 : W.cell? ⟨s0, 1, none⟩ = some (.slice qq M.reads.length d) := cell_of_heap m0 1
  have m02 : W.cell? ⟨s0, 2, none⟩ = some (.int .i64 M.wrong) := cell_of_heap m0 2
  have HCE := Lib.hid (fun y (h : Ext W y) => (⟨h.cell m00, h.cell m01, h.cell m02, hE.trans h⟩ :
    y.cell? ⟨s0, 0, none⟩ = some (.slice p M.weeks.length c) ∧ y.cell? ⟨s0, 1, none⟩ = some (.slice qq M.reads.length d) ∧ y.cell? ⟨s0, 2, none⟩ = some (.int .i64 M.wrong) ∧ Ext w y))
  clear hW m0 hE m00 m01 m02 hs0'
  have HMS := Lib.hid (masks04 W)
  go_upto_region 2 with (first
    | (go_at_call 124; refine HMS.out.mono ?_; rintro e w1 ⟨rfl, hE1⟩)
    | (refine guardL (.store 180 (.tmp 3) (.tmp 6)) rfl ?_; rw [zero2400]; refine wpList_storeB 180 _ _ iMasks rfl rfl rfl rfl (Blk.new' rfl _ _ _ _) (Nat.le_refl _) ?_))
  have bm := ((Blk.new' (w := w1) rfl 180 2400 .u64 (fun _ => 0)).sets 0 mskF 2400).congr (g := mskF) (fun j hj => by rw [if_pos (by omega), Nat.sub_zero])
  have hE2 : Ext W ((w1.alloc (.cells (rowV 2400 .u64 (fun _ => 0)) 180)).setCells w1.heap.size 0 (rowV 2400 .u64 mskF).toList) := (hE1.alloc _).setCells hE1.size _ _
  obtain ⟨mb, hmb⟩ : ∃ mb, mb = w1.heap.size := ⟨_, rfl⟩
  rw [← hmb] at bm hE2 ⊢
  generalize World.setCells _ _ _ _ = W2 at bm hE2 ⊢
  have HCE2 := Lib.hid (fun y (h : Ext W2 y) => HCE.out y (hE2.trans h))
  have HBM := Lib.hid bm
  obtain ⟨-, e1, -, e4⟩ := HCE2.out W2 (Ext.refl _)
  clear bm hE2 hmb hE1 HMS HCE e4
  go_upto_region 3 with (fail)
  go_wp2
  go_loopw [4, 10] (fun n i wr => ∃ k : Nat, k ≤ 100 ∧ i = .int .i64 k ∧ n = .int .i64 (leastTo M k) ∧ Ext W2 wr) (fun _ i _ => 100 - (intOf i).toNat)
  case atStart => exact ⟨0, by omega, rfl, rfl, Ext.refl _⟩
  case round =>
    obtain ⟨k, hk, rfl, rfl, hE⟩ := hrel
    obtain ⟨k0, k1, k2, k3⟩ := HCE2.out wr hE
    have HER := Lib.hid hE
    clear e1
    by_cases hlt : k < 100
    · have hlt' : (k : Int) < 100 := by omega
      have HWR := Lib.hid (wrongs04 M HVM.out 0 mb 180 (k : Int) p qq c d wr (HP.out.ext k3) (HQ.out.ext k3) (HBM.out.ext hE) (Nat.zero_le _) (by omega) (by omega))
      have hbd := wrongsF_bd M 0 (k : Int) (by omega)
      have hsu := leastTo_succ M k
      have hif : (if wrongsF M 0 (k : Int) < leastTo M k then wrongsF M 0 (k : Int) else leastTo M k) = leastTo M (k + 1) := by rw [hsu]; split <;> omega
      have HIF := Lib.hid hif
      clear hE k3 hsu hif hbd
      go_upto_region 7 with (go_at_call 146; refine HWR.out.mono ?_; rintro e w3 ⟨rfl, hE3⟩)
      have HE3 := Lib.hid (HER.out.trans hE3)
      rw [HIF.out]
      clear hE3 k0 k1 k2 HWR HIF
      go_wp2
      go_roundw
      case rel => exact ⟨k + 1, by omega, by simp, rfl, HE3.out⟩
      case measure => simp [intOf]; omega
    · obtain rfl : k = 100 := by omega
      have HK3 := Lib.hid k3
      clear hE k0 k1 k2 k3
      go_wp2
      go_ret
      exact RetE.fin HK3.out rfl
end Go.Proofs.YtppncdbhebgcaaaGreatDoor
namespace Go.Proofs.YtppncdbhebgcaaaGreatDoor
open Go.RowKit

/-- A meter in memory. -/
def MtV (w : World) (v : Value) (M : Mt) : Prop := ∃ p c q d, v = .agg #[.slice p M.weeks.length c, .slice q M.reads.length d, .int .i64 M.wrong] ∧ PairsAt w p M.weeks ∧ PairsAt w q M.reads
theorem MtV.ext {w w' : World} {v : Value} {M : Mt} (h : MtV w v M) (hE : Ext w w') : MtV w' v M := by
  obtain ⟨p, c, q, d, e, h1, h2⟩ := h
  exact ⟨p, c, q, d, e, h1.ext hE, h2.ext hE⟩

def headM (M : Mt) : Bool := decide (M.weeks.length ≤ 5) && (decide (M.reads.length ≤ 7) && (decide (0 ≤ M.wrong) && decide (M.wrong ≤ 7)))
def weekB (x : Int × Int) : Bool := decide (0 ≤ x.1) && (decide (x.1 ≤ x.2) && decide (x.2 ≤ 300))
def readB (n : Nat) (r : Int × Int) : Bool := decide (0 ≤ r.1) && (decide (r.1 ≤ (n : Int)) && (decide (0 ≤ r.2) && decide (r.2 < 100)))
def okB (M : Mt) : Bool := headM M && (M.weeks.all weekB && M.reads.all (readB M.weeks.length))
theorem okB_iff (M : Mt) : okB M = true ↔ ValidM M := by
  unfold okB headM weekB readB
  simp only [Bool.and_eq_true, decide_eq_true_eq, List.all_eq_true]
  constructor
  · rintro ⟨⟨h1, h2, h3, h4⟩, h5, h6⟩
    exact ⟨h1, h2, h3, h4, fun x hx => h5 x hx, fun r hr => by have := h6 r hr; omega⟩
  · rintro ⟨h1, h2, h3, h4, h5, h6⟩
    exact ⟨⟨h1, h2, h3, h4⟩, fun x hx => h5 x hx, fun r hr => by have := h6 r hr; omega⟩
noncomputable def chkM (M : Mt) : Int := if okB M = true then 0 else 40
theorem chkM_t {M : Mt} (h : ValidM M) : chkM M = 0 := by unfold chkM; rw [if_pos ((okB_iff M).2 h)]
theorem chkM_f {M : Mt} (h : ¬ValidM M) : chkM M = 40 := by unfold chkM; rw [if_neg (fun e => h ((okB_iff M).1 e))]

theorem all_take {α : Type} (f : α → Bool) (l : List α) {k : Nat} (h : k < l.length) : (l.take (k + 1)).all f = ((l.take k).all f && f l[k]) := by
  rw [List.take_add_one, List.getElem?_eq_getElem h, List.all_append]
  simp

set_option maxRecDepth 20000 in
set_option maxHeartbeats 3200000 in
theorem Check04 (M : Mt) (v : Value) (w : World) (hv : MtV w v M) (h1 : M.weeks.length ≤ 1000) (h2 : M.reads.length ≤ 1000) :
    Calls Tryz.prog 84 #[v] w (RetE (.int .i64 (chkM M)) w) := by
  obtain ⟨p, c, qq, d, rfl, hp, hq⟩ := hv
  have HP := Lib.hid hp
  have HQ := Lib.hid hq
  clear hp hq
  go_enter Tryz.func84, Tryz.ntmps84
  go_upto_region 1 with (fail)
  obtain ⟨s0, hs0'⟩ : ∃ s0, s0 = w.heap.size := ⟨_, rfl⟩
  generalize hW : World.alloc _ _ = W
  have m0 : W.heap[s0]? = some (.cells #[.slice p M.weeks.length c, .slice qq M.reads.length d, .int .i64 M.wrong] 55) := by rw [hs0', ← hW]; exact heap_new _ _
  have hE : Ext w W := by rw [← hW]; exact (by repeat (first | exact Ext.refl _ | assumption | refine Ext.drewN ?_ _ | refine Ext.drew ?_ | refine Ext.alloc ?_ _))
  rw [← hs0']
  have m00 : W.cell? ⟨s0, 0, none⟩ = some (.slice p M.weeks.length c) := cell_of_heap m0 0
  have m01 : W.cell? ⟨s0, 1, none⟩ = some (.slice qq M.reads.length d) := cell_of_heap m0 1
  have m02 : W.cell? ⟨s0, 2, none⟩ = some (.int .i64 M.wrong) := cell_of_heap m0 2
  have HCE := Lib.hid (fun y (h : Ext W y) => (⟨h.cell m00, h.cell m01, h.cell m02, hE.trans h⟩ :
    y.cell? ⟨s0, 0, none⟩ = some (.slice p M.weeks.length c) ∧ y.cell? ⟨s0, 1, none⟩ = some (.slice qq M.reads.length d) ∧ y.cell? ⟨s0, 2, none⟩ = some (.int .i64 M.wrong) ∧ Ext w y))
  clear hW m0 hE hs0'
  go_upto_region 2 with (fail)
  all_goals
    go_wp2
    go_loopw [3, 31] (fun g i wr => ∃ k : Nat, k ≤ M.weeks.length ∧ i = .int .i64 k ∧ g = .bool (headM M && (M.weeks.take k).all weekB) ∧ Ext W wr) (fun _ i _ => M.weeks.length - (intOf i).toNat)
    case atStart => exact ⟨0, by omega, rfl, by refine congrArg Value.bool (Bool.eq_iff_iff.2 ⟨fun h => ?_, fun h => ?_⟩) <;> simp [headM] at h ⊢ <;> omega, Ext.refl _⟩
    case round =>
      obtain ⟨k, hk, rfl, rfl, hE⟩ := hrel
      obtain ⟨k0, k1, k2, k3⟩ := HCE.out wr hE
      have HER := Lib.hid hE
      clear hE m00 m01 m02
      by_cases hlt : k < M.weeks.length
      · have hlt' : (k : Int) < (M.weeks.length : Int) := by omega
        obtain ⟨wb, wo, hpp, w0, w1⟩ := HP.out.ext k3 k hlt
        subst hpp
        have hat := all_take weekB M.weeks hlt
        obtain ⟨x0, hx0⟩ : ∃ x : Int, x = M.weeks[k].1 := ⟨_, rfl⟩
        obtain ⟨x1, hx1⟩ : ∃ x : Int, x = M.weeks[k].2 := ⟨_, rfl⟩
        have hwk : weekB M.weeks[k] = (decide (0 ≤ x0) && (decide (x0 ≤ x1) && decide (x1 ≤ 300))) := by rw [hx0, hx1]; rfl
        rw [hwk] at hat
        rw [← hx0] at w0
        rw [← hx1] at w1
        obtain ⟨g, hg⟩ : ∃ g, g = (headM M && (M.weeks.take k).all weekB) := ⟨_, rfl⟩
        have HG := Lib.hid (show (headM M && (M.weeks.take (k + 1)).all weekB) = (g && (decide (0 ≤ x0) && (decide (x0 ≤ x1) && decide (x1 ≤ 300)))) from by rw [hat, hg, Bool.and_assoc])
        rw [← hg]
        clear hx0 hx1 hwk hat hg
        go_upto_region 5 with (fail)
        have hE5 : Ext W (wr.alloc (.cells #[.int .i64 x0, .int .i64 x1] 38)) := HER.out.alloc _
        have hs5 : (wr.alloc (.cells #[.int .i64 x0, .int .i64 x1] 38)).heap[wr.heap.size]? = some (.cells #[.int .i64 x0, .int .i64 x1] 38) := heap_new _ _
        obtain ⟨rc, hrc⟩ : ∃ rc, rc = wr.heap.size := ⟨_, rfl⟩
        rw [← hrc] at hs5 ⊢
        generalize World.alloc _ _ = W5 at hE5 hs5 ⊢
        have d0 : W5.cell? ⟨rc, 0, none⟩ = some (.int .i64 x0) := cell_of_heap hs5 0
        have d1 : W5.cell? ⟨rc, 1, none⟩ = some (.int .i64 x1) := cell_of_heap hs5 1
        have HE5 := Lib.hid hE5
        clear hE5 hs5 hrc w0 w1 hlt' k0 k1 k2 k3
        cases g
        · go_wp2
          go_roundw
          case rel => exact ⟨k + 1, by omega, by simp, by rw [HG.out]; rfl, HE5.out⟩
          case measure => simp [intOf]; omega
        · go_wp2
          all_goals go_roundw
          all_goals first
            | exact ⟨k + 1, by omega, by simp, by rw [HG.out]; refine congrArg Value.bool (Bool.eq_iff_iff.2 ⟨fun h => ?_, fun h => ?_⟩) <;> simp at h ⊢ <;> omega, HE5.out⟩
            | (simp [intOf]; omega)
      · obtain rfl : k = M.weeks.length := by omega
        obtain ⟨g, hg⟩ : ∃ g, g = (headM M && (M.weeks.take M.weeks.length).all weekB) := ⟨_, rfl⟩
        rw [← hg]
        have HG := Lib.hid (show g = (headM M && M.weeks.all weekB) from by rw [hg, List.take_length])
        clear hg hk hlt
        go_wp2
        go_loopw [3, 57] (fun x i wr2 => ∃ k : Nat, k ≤ M.reads.length ∧ i = .int .i64 k ∧ x = .bool (g && (M.reads.take k).all (readB M.weeks.length)) ∧ Ext W wr2) (fun _ i _ => M.reads.length - (intOf i).toNat)
        case atStart => exact ⟨0, by omega, rfl, by simp, HER.out⟩
        case round =>
          obtain ⟨k, hk, rfl, rfl, hE2⟩ := hrel
          obtain ⟨k0, k1, k2, k3⟩ := HCE.out _ hE2
          have HER2 := Lib.hid hE2
          clear hE2
          by_cases hlt : k < M.reads.length
          · have hlt' : (k : Int) < (M.reads.length : Int) := by omega
            obtain ⟨rb, ro, hqq, r0, r1⟩ := HQ.out.ext k3 k hlt
            subst hqq
            have hat := all_take (readB M.weeks.length) M.reads hlt
            obtain ⟨x0, hx0⟩ : ∃ x : Int, x = M.reads[k].1 := ⟨_, rfl⟩
            obtain ⟨x1, hx1⟩ : ∃ x : Int, x = M.reads[k].2 := ⟨_, rfl⟩
            have hrd : readB M.weeks.length M.reads[k] = (decide (0 ≤ x0) && (decide (x0 ≤ (M.weeks.length : Int)) && (decide (0 ≤ x1) && decide (x1 < 100)))) := by rw [hx0, hx1]; rfl
            rw [hrd] at hat
            rw [← hx0] at r0
            rw [← hx1] at r1
            obtain ⟨g2, hg2⟩ : ∃ g2, g2 = (g && (M.reads.take k).all (readB M.weeks.length)) := ⟨_, rfl⟩
            have HG2 := Lib.hid (show (g && (M.reads.take (k + 1)).all (readB M.weeks.length)) = (g2 && (decide (0 ≤ x0) && (decide (x0 ≤ (M.weeks.length : Int)) && (decide (0 ≤ x1) && decide (x1 < 100))))) from by rw [hat, hg2, Bool.and_assoc])
            rw [← hg2]
            clear hx0 hx1 hrd hat hg2
            go_upto_region 10 with (fail)
            have hE5 : Ext W (wr.alloc (.cells #[.int .i64 x0, .int .i64 x1] 108)) := HER2.out.alloc _
            have hs5 : (wr.alloc (.cells #[.int .i64 x0, .int .i64 x1] 108)).heap[wr.heap.size]? = some (.cells #[.int .i64 x0, .int .i64 x1] 108) := heap_new _ _
            have hd0 : (wr.alloc (.cells #[.int .i64 x0, .int .i64 x1] 108)).cell? ⟨s0, 0, none⟩ = some (.slice p M.weeks.length c) := ((Ext.refl wr).alloc _).cell k0
            obtain ⟨rc, hrc⟩ : ∃ rc, rc = wr.heap.size := ⟨_, rfl⟩
            rw [← hrc] at hs5 ⊢
            generalize World.alloc _ _ = W5 at hE5 hs5 hd0 ⊢
            have d0 : W5.cell? ⟨rc, 0, none⟩ = some (.int .i64 x0) := cell_of_heap hs5 0
            have d1 : W5.cell? ⟨rc, 1, none⟩ = some (.int .i64 x1) := cell_of_heap hs5 1
            have HE5 := Lib.hid hE5
            clear hE5 hs5 hrc r0 r1 hlt' k0 k1 k2 k3
            cases g2
            · go_wp2
              go_roundw
              case rel => exact ⟨k + 1, by omega, by simp, by rw [HG2.out]; rfl, HE5.out⟩
              case measure => simp [intOf]; omega
            · go_wp2
              all_goals go_roundw
              all_goals first
                | exact ⟨k + 1, by omega, by simp, by rw [HG2.out]; refine congrArg Value.bool (Bool.eq_iff_iff.2 ⟨fun h => ?_, fun h => ?_⟩) <;> simp at h ⊢ <;> omega, HE5.out⟩
                | (simp [intOf]; omega)
          · obtain rfl : k = M.reads.length := by omega
            obtain ⟨g2, hg2⟩ : ∃ g2, g2 = (g && (M.reads.take M.reads.length).all (readB M.weeks.length)) := ⟨_, rfl⟩
            rw [← hg2]
            have hok : g2 = okB M := by rw [hg2, List.take_length, HG.out, okB, Bool.and_assoc]
            have HOK := Lib.hid hok
            have HK3 := Lib.hid k3
            clear hg2 hok hlt k0 k1 k2 k3
            cases g2
            · go_wp2
              go_ret
              exact RetE.fin HK3.out (by unfold chkM; rw [← HOK.out]; rfl)
            · go_wp2
              go_ret
              exact RetE.fin HK3.out (by unfold chkM; rw [← HOK.out]; rfl)
end Go.Proofs.YtppncdbhebgcaaaGreatDoor
namespace Go.Proofs.YtppncdbhebgcaaaGreatDoor
open Go.RowKit

open Classical in
noncomputable def askV (M : Mt) (is : Bool) : Int := if ValidM M then (if is = true then (if M.wrong < leastTo M 100 then 3 else 0) else 1) else 40
set_option maxRecDepth 20000 in
set_option maxHeartbeats 3200000 in
theorem ask04 (M : Mt) (is : Bool) (v : Value) (w : World) (hv : MtV w v M) (h1 : M.weeks.length ≤ 1000) (h2 : M.reads.length ≤ 1000) :
    Calls Tryz.prog 85 #[v, .bool is] w (RetE (.int .i64 (askV M is)) w) := by
  have HV := Lib.hid hv
  obtain ⟨p, c, qq, d, rfl, hp, hq⟩ := hv
  have HP := Lib.hid hp
  have HQ := Lib.hid hq
  clear hp hq
  go_enter Tryz.func85, Tryz.ntmps85
  go_upto_region 1 with (fail)
  obtain ⟨s0, hs0'⟩ : ∃ s0, s0 = w.heap.size := ⟨_, rfl⟩
  generalize hW : World.alloc _ _ = W
  have m0 : W.heap[s0]? = some (.cells #[.slice p M.weeks.length c, .slice qq M.reads.length d, .int .i64 M.wrong] 55) := by rw [hs0', ← hW]; exact heap_new _ _
  have hE : Ext w W := by rw [← hW]; exact (by repeat (first | exact Ext.refl _ | assumption | refine Ext.drewN ?_ _ | refine Ext.drew ?_ | refine Ext.alloc ?_ _))
  rw [← hs0']
  have m00 : W.cell? ⟨s0, 0, none⟩ = some (.slice p M.weeks.length c) := cell_of_heap m0 0
  have m01 : W.cell? ⟨s0, 1, none⟩ = some (.slice qq M.reads.length d) := cell_of_heap m0 1
  have m02 : W.cell? ⟨s0, 2, none⟩ = some (.int .i64 M.wrong) := cell_of_heap m0 2
  have HCE := Lib.hid (fun y (h : Ext W y) => (⟨h.cell m00, h.cell m01, h.cell m02, hE.trans h⟩ :
    y.cell? ⟨s0, 0, none⟩ = some (.slice p M.weeks.length c) ∧ y.cell? ⟨s0, 1, none⟩ = some (.slice qq M.reads.length d) ∧ y.cell? ⟨s0, 2, none⟩ = some (.int .i64 M.wrong) ∧ Ext w y))
  have HCK := Check04 M _ W (HV.out.ext hE) h1 h2
  clear hW m0 hE hs0'
  by_cases hM : ValidM M
  case neg =>
    have HA := Lib.hid (show askV M is = 40 from by unfold askV; rw [if_neg hM])
    rw [chkM_f hM] at HCK
    have HCK := Lib.hid HCK
    clear hM
    go_wp2_with (go_at_call 84; refine HCK.out.mono ?_; rintro e w' ⟨rfl, hE1⟩)
    have HE1 := Lib.hid (HCE.out _ hE1).2.2.2
    clear hE1
    go_ret
    exact RetE.fin HE1.out (by rw [HA.out]; rfl)
  rw [chkM_t hM] at HCK
  have HCK := Lib.hid HCK
  have HM := Lib.hid hM
  clear hM
  cases is
  · have HA := Lib.hid (show askV M false = 1 from by unfold askV; rw [if_pos HM.out]; simp)
    go_wp2_with (go_at_call 84; refine HCK.out.mono ?_; rintro e w' ⟨rfl, hE1⟩)
    have HE1 := Lib.hid (HCE.out _ hE1).2.2.2
    clear hE1
    go_ret
    exact RetE.fin HE1.out (by rw [HA.out]; rfl)
  · have HA := Lib.hid (show askV M true = if M.wrong < leastTo M 100 then 3 else 0 from by unfold askV; rw [if_pos HM.out]; simp)
    go_upto_region 6 with (go_at_call 84; refine HCK.out.mono ?_; rintro e W1 ⟨rfl, hE1⟩)
    have HE1 := Lib.hid hE1
    have HLE := Lib.hid (fun y (h : Ext w y) => least04 M HM.out p qq c d y (HP.out.ext h) (HQ.out.ext h))
    obtain ⟨x, hx⟩ : ∃ x, x = leastTo M 100 := ⟨_, rfl⟩
    rw [← hx] at HA HLE
    clear hE1 hx m00 m01 m02
    refine wp_region_facts 5 [[], [0], [], [2], [1, 3]] [4] Ext (FL [Is (.agg #[.slice p M.weeks.length c, .slice qq M.reads.length d, .int .i64 M.wrong]), Is (.int .i64 x), Is (.pointer (some ⟨s0, 2, none⟩)), Is (.int .i64 M.wrong), Is (.bool (decide (M.wrong < x)))]) (by kernel_rfl) (by kernel_rfl) Ext.refl (fun _ _ _ => Ext.trans) (fun _ _ => Ext.size) (FL.mono ⟨Is.mono, Is.mono, Is.mono, Is.mono, Is.mono, trivial⟩) ⟨?_, ?_, ?_, ?_, ?_, trivial⟩ ?_
    · refine opF_step ?_
      intro ys l0 h0 w' hr hf K hK
      clear hf
      obtain ⟨k0, k1, k2, k3⟩ := HCE.out w' (HE1.out.drew.trans hr)
      simp only [fill, Act.put, dstO, List.take_succ_cons, List.take_zero, List.setIfInBounds_toArray, List.set_cons_zero, List.set_cons_succ, List.getElem?_cons_zero, Nat.zero_add, Nat.reduceAdd] at hK ⊢
      refine OpB.mk' ?_
      go_simp
      exact hK.out _ _ rfl (Ext.refl _)
    · refine opF_step ?_
      intro ys l0 h0 w' hr hf K hK
      obtain ⟨f0, -⟩ := hf
      have e0 : ys 0 = _ := f0
      obtain ⟨k0, k1, k2, k3⟩ := HCE.out w' (HE1.out.drew.trans hr)
      simp only [fill, Act.put, dstO, List.take_succ_cons, List.take_zero, List.setIfInBounds_toArray, List.set_cons_zero, List.set_cons_succ, List.getElem?_cons_zero, List.getElem?_cons_succ, Nat.zero_add, Nat.reduceAdd] at hK ⊢
      simp only [e0] at hK ⊢
      clear e0 f0
      refine OpB.mk' ?_
      go_simp
      refine (HLE.out w' k3).mono ?_
      rintro e w2 ⟨rfl, hE2⟩
      exact hK.out _ _ rfl hE2
    · refine opF_step ?_
      intro ys l0 h0 w' hr hf K hK
      clear hf
      simp only [fill, Act.put, dstO, List.take_succ_cons, List.take_zero, List.setIfInBounds_toArray, List.set_cons_zero, List.set_cons_succ, List.getElem?_cons_zero, List.getElem?_cons_succ, Nat.zero_add, Nat.reduceAdd] at hK ⊢
      refine OpB.mk' ?_
      go_simp
      exact hK.out _ _ rfl (Ext.refl _)
    · refine opF_step ?_
      intro ys l0 h0 w' hr hf K hK
      obtain ⟨f0, -⟩ := hf
      have e0 : ys 2 = _ := f0
      obtain ⟨k0, k1, k2, k3⟩ := HCE.out w' (HE1.out.drew.trans hr)
      simp only [fill, Act.put, dstO, List.take_succ_cons, List.take_zero, List.setIfInBounds_toArray, List.set_cons_zero, List.set_cons_succ, List.getElem?_cons_zero, List.getElem?_cons_succ, Nat.zero_add, Nat.reduceAdd] at hK ⊢
      simp only [e0] at hK ⊢
      clear e0 f0
      refine OpB.mk' ?_
      go_simp
      exact hK.out _ _ rfl (Ext.refl _)
    · refine opF_step ?_
      intro ys l0 h0 w' hr hf K hK
      obtain ⟨f0, f1, -⟩ := hf
      have e0 : ys 1 = _ := f0
      have e1 : ys 3 = _ := f1
      simp only [fill, Act.put, dstO, List.take_succ_cons, List.take_zero, List.setIfInBounds_toArray, List.set_cons_zero, List.set_cons_succ, List.getElem?_cons_zero, List.getElem?_cons_succ, Nat.zero_add, Nat.reduceAdd] at hK ⊢
      simp only [e0, e1] at hK ⊢
      clear e0 e1 f0 f1
      refine OpB.mk' ?_
      go_simp
      exact hK.out _ _ rfl (Ext.refl _)
    intro ys l0 h0 w2 hr hf hsp
    obtain ⟨f4, -⟩ := hf
    have e4 : ys 4 = _ := f4
    simp only [fill, Act.put, List.take_succ_cons, List.take_zero, List.setIfInBounds_toArray, List.set_cons_zero, List.set_cons_succ, Nat.zero_add, Nat.reduceAdd, List.drop_succ_cons, List.drop_zero]
    rw [e4]
    clear e4 f4 hsp
    have HE2 := Lib.hid (HCE.out _ (HE1.out.drew.trans hr)).2.2.2
    clear hr
    by_cases hl : M.wrong < x
    · have hd : decide (M.wrong < x) = true := decide_eq_true hl
      rw [hd]
      have HA2 := Lib.hid (show askV M true = 3 from by rw [HA.out, if_pos hl])
      clear hl hd HA
      go_wp2
      go_ret
      exact RetE.fin HE2.out (by rw [HA2.out]; rfl)
    · have hd : decide (M.wrong < x) = false := decide_eq_false hl
      rw [hd]
      have HA2 := Lib.hid (show askV M true = 0 from by rw [HA.out, if_neg hl])
      clear hl hd HA
      go_wp2
      go_ret
      exact RetE.fin HE2.out (by rw [HA2.out]; rfl)

end Go.Proofs.YtppncdbhebgcaaaGreatDoor
namespace Go.Proofs.YtppncdbhebgcaaaGreatDoor
open Go.RowKit

def canT (M : Mt) (r : Int × Int) (right : Bool) (s : Nat) : Bool := (decide ((s : Int) = r.2) == right) && decide (wrongsF M r.1.toNat s ≤ M.wrong)
def canF (M : Mt) (r : Int × Int) (right : Bool) : Bool := (List.range 100).any (canT M r right)
end Go.Proofs.YtppncdbhebgcaaaGreatDoor
namespace Go.Proofs.YtppncdbhebgcaaaGreatDoor
open Go.RowKit

/-- the numbers below k for which something is so -/
def pickTo (f : Nat → Bool) (k : Nat) : List Int := ((List.range k).filter f).map fun t : Nat => (t : Int)
theorem pickTo_succ (f : Nat → Bool) (k : Nat) : pickTo f (k + 1) = pickTo f k ++ (if f k then [(k : Int)] else []) := by
  unfold pickTo
  rw [List.range_succ, List.filter_append, List.map_append]
  congr 1
  by_cases h : f k = true
  · simp [h]
  · simp [h]
theorem pickTo_len (f : Nat → Bool) (k : Nat) : (pickTo f k).length ≤ k := by
  unfold pickTo
  rw [List.length_map]
  exact Nat.le_trans (List.length_filter_le _ _) (by simp)

/-- a list, if there is no error -/
def okL (n : Int) (l : List Int) : List Int := if n = 0 then l else []
theorem okL_0 {n : Int} (h : n = 0) (l : List Int) : okL n l = l := if_pos h
theorem okL_ne {n : Int} (h : ¬n = 0) (l : List Int) : okL n l = [] := if_neg h
/-- a list of numbers and an error, the list in memory of its own -/
def RetL (l : List Int) (n : Int) (w : World) (e : Ending) (w' : World) : Prop := ∃ v, e = .returned (.tuple #[v, .int .i64 n]) ∧ w'.ownsRow w.heap.size 3 1 v l.length (intVs l) ∧ Ext w w'

end Go.Proofs.YtppncdbhebgcaaaGreatDoor
