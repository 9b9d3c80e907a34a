
/- The walk of ends. The walk of sums. The walk of between. The walk of Sums. What the program computes is what the plain law speaks of. -/
import Derived.Test.YtppncdbhebgcaaaGreatDoorXE
import Derived.Test.YtppncdbhebgcaaaGreatDoorXC
namespace Go.Proofs.YtppncdbhebgcaaaGreatDoor
open Go.RowKit

theorem iInts : (Tryz.prog.info? 182).map (·.size) = some 100 := by kernel_rfl
theorem zero100 : Tryz.zeroCells182 = rowV 100 .i64 (fun _ => 0) := by kernel_rfl
def endF (M : Mt) (b : Nat) : Nat → Int := fun j => fewQ (aheadF M b (j : Int) (M.weeks.length - b))

set_option maxRecDepth 20000 in
set_option maxHeartbeats 3200000 in
theorem ends04 (M : Mt) (hM : ValidM M) (b mb : Nat) (mt : TypeId) (p qq : Option Addr) (c d : Nat) (w : World)
    (hp : PairsAt w p M.weeks) (hq : PairsAt w qq M.reads) (hm : Blk w mb mt 2400 .u64 mskF) (hb : b ≤ M.weeks.length) :
    Calls Tryz.prog 125 #[.agg #[.slice p M.weeks.length c, .slice qq M.reads.length d, .int .i64 M.wrong], .int .i64 b, .pointer (some ⟨mb, 0, none⟩)] w (RetE (.agg (rowV 100 .i64 (endF M b))) w) := by
  have HAF := Lib.hid (fun y (sh : Int) (h : Ext w y) (h0 : 0 ≤ sh) (h9 : sh ≤ 99) => ahead04 M hM b M.weeks.length mb mt sh p qq c d y (hp.ext h) (hq.ext h) (hm.ext h) hb (Nat.le_refl _) h0 h9)
  have hn5 := hM.nw
  clear hp hq hm hM
  go_enter Tryz.func125, Tryz.ntmps125
  go_upto_region 1 with (fail)
  rw [zero100]
  obtain ⟨s0, hs0'⟩ : ∃ s0, s0 = w.heap.size := ⟨_, rfl⟩
  generalize hW : World.alloc _ _ = W
  have m0 : W.heap[s0]? = some (.cells #[.slice p M.weeks.length c, .slice qq M.reads.length d, .int .i64 M.wrong] 55) := by
    rw [hs0']; exact heap_at0 (by rw [← hW]; exact (by repeat (first | exact Ext.refl _ | assumption | refine Ext.drewN ?_ _ | refine Ext.drew ?_ | refine Ext.alloc ?_ _)))
  have br : Blk W (s0 + 1) 182 100 .i64 (fun _ => 0) := by rw [← hW, hs0']; exact Blk.new' (by simp) _ _ _ _
  have hE : Ext w W := by rw [← hW]; exact (by repeat (first | exact Ext.refl _ | assumption | refine Ext.drewN ?_ _ | refine Ext.drew ?_ | refine Ext.alloc ?_ _))
  rw [← hs0']
  have m00 : W.cell? ⟨s0, 0, none⟩ = some (.slice p M.weeks.length c) := cell_of_heap m0 0
  have m01 : W.cell? ⟨s0, 1, none⟩ = some (.slice qq M.reads.length d) := cell_of_heap m0 1
  have m02 : W.cell? ⟨s0, 2, none⟩ = some (.int .i64 M.wrong) := cell_of_heap m0 2
  have HCE := Lib.hid (fun y (h : Ups (s0 + 1) W y) => (⟨h.cell m00 (by omega), h.cell m01 (by omega), h.cell m02 (by omega), hE.ups h (by omega)⟩ :
    y.cell? ⟨s0, 0, none⟩ = some (.slice p M.weeks.length c) ∧ y.cell? ⟨s0, 1, none⟩ = some (.slice qq M.reads.length d) ∧ y.cell? ⟨s0, 2, none⟩ = some (.int .i64 M.wrong) ∧ Ext w y))
  have BR := Lib.hid br
  have hrlt := br.lt
  have HS0 := Lib.hid (show w.heap.size ≤ s0 from by omega)
  clear hW m0 hE m00 m01 m02 hs0' br
  go_wp2
  go_loopw [9] (fun i wr => ∃ k : Nat, k ≤ 100 ∧ i = .int .i64 k ∧ Ups (s0 + 1) W wr ∧ Blk wr (s0 + 1) 182 100 .i64 (fun j => if j < k then endF M b j else 0)) (fun i _ => 100 - (intOf i).toNat)
  case atStart => exact ⟨0, by omega, rfl, Ups.refl _ _, BR.out.congr (fun j _ => by simp)⟩
  case round =>
    obtain ⟨k, hk, rfl, hU, hB⟩ := hrel
    obtain ⟨k0, k1, k2, k3⟩ := HCE.out wr hU
    have HUR := Lib.hid hU
    have HBR := Lib.hid hB
    have HEW := Lib.hid k3
    clear hU hB k3
    by_cases hlt : k < 100
    · have hlt' : (k : Int) < 100 := by omega
      have HA := Lib.hid (HAF.out wr (k : Int) HEW.out (by omega) (by omega))
      go_upto_region 5 with (first
        | (go_at_call 148; refine HA.out.mono ?_; rintro e w1 ⟨rfl, hE1⟩)
        | (refine guardL (.store 204 (.tmp 8) (.tmp 19)) rfl ?_; rw [zero192]; refine wpList_storeB 204 _ _ iPaths rfl rfl rfl rfl (Blk.new' rfl _ _ _ _) (Nat.le_refl _) ?_))
      have bp := ((Blk.new' (w := w1) rfl 204 192 .u64 (fun _ => 0)).sets 0 (pF (aheadF M b (k : Int) (M.weeks.length - b))) 192).congr (g := pF (aheadF M b (k : Int) (M.weeks.length - b))) (fun j hj => by rw [if_pos (by omega), Nat.sub_zero])
      have hE2 : Ext wr ((w1.alloc (.cells (rowV 192 .u64 (fun _ => 0)) 204)).setCells w1.heap.size 0 (rowV 192 .u64 (pF (aheadF M b (k : Int) (M.weeks.length - b)))).toList) := (hE1.alloc _).setCells hE1.size _ _
      obtain ⟨pb, hpb⟩ : ∃ pb, pb = w1.heap.size := ⟨_, rfl⟩
      rw [← hpb] at bp hE2 ⊢
      generalize World.setCells _ _ _ _ = W2 at bp hE2 ⊢
      have HF := Lib.hid (fewest04 _ pb 204 W2 bp)
      have HE2 := Lib.hid hE2
      clear bp hE2 hpb hE1 HA k0 k1 k2
      go_wp2_with fail
      refine HF.out.mono ?_
      rintro e w3 ⟨rfl, hE3⟩
      have hE4 : Ext wr w3 := HE2.out.trans hE3
      have nb := HBR.out.ext hE4
      have HU3 := Lib.hid (HUR.out.trans (Ups.ext hE4))
      have cc := nb.cell (j := k) hlt
      have ff := nb.frozen (j := k)
      have NB := Lib.hid nb
      have hb1 := fewQ_bd (aheadF M b (k : Int) (M.weeks.length - b))
      have HX := Lib.hid (show endF M b k = fewQ (aheadF M b (k : Int) (M.weeks.length - b)) from rfl)
      obtain ⟨x, hx⟩ : ∃ x, x = fewQ (aheadF M b (k : Int) (M.weeks.length - b)) := ⟨_, rfl⟩
      rw [← hx] at HX ⊢
      clear nb hE4 hE3 HF HE2 HBR HUR hb1 hx
      go_upto_region 6 with (fail)
      have N2 := Lib.hid ((NB.out.set (o := k) (x := x)).congr (g := fun j => if j < k + 1 then endF M b j else 0) (fun j hj => by
        by_cases e : j = k
        · subst e; rw [if_pos rfl, if_pos (by omega), HX.out]
        · rw [if_neg e]
          by_cases e2 : j < k
          · rw [if_pos e2, if_pos (by omega)]
          · rw [if_neg e2, if_neg (by omega)]))
      have U2 := Lib.hid (HU3.out.setCell k (.int .i64 x))
      clear cc ff NB HU3
      go_wp2
      go_roundw
      case rel => exact ⟨k + 1, by omega, by simp, U2.out, N2.out⟩
      case measure => simp [intOf]; omega
    · obtain rfl : k = 100 := by omega
      have hb9 := HBR.out.congr (g := endF M b) (fun j hj => by rw [if_pos hj])
      have HB9 := Lib.hid hb9
      clear hb9 k0 k1 k2
      go_upto_region 7 with (fail)
      refine wp_region_lit (wpList_loadB 182 _ _ Tryz.underlying182 rfl iInts rfl rfl rfl HB9.out (Nat.le_refl _) ?_)
      rw [show (fun j => endF M b (0 + j)) = endF M b from funext (fun j => by rw [Nat.zero_add])]
      refine wpList_storeB 182 _ _ iInts rfl rfl rfl rfl HB9.out (Nat.le_refl _) ?_
      refine wpList_nil ?_
      have HF := Lib.hid (HB9.out.sets 0 (endF M b) 100)
      have HFE : Ext w _ := Ext.setCells (b := s0 + 1) HEW.out (by have := HS0.out; omega) 0 (rowV 100 .i64 (endF M b)).toList
      generalize World.setCells wr _ _ _ = W9 at HF HFE ⊢
      have HG := Lib.hid (HF.out.congr (g := endF M b) (fun j hj => by rw [if_pos (by omega), Nat.sub_zero]))
      have HFE := Lib.hid HFE
      go_wp2
      exact ret_row 182 _ rfl rfl HG.out Tryz.underlying182 rfl iInts rfl (RetE.fin HFE.out rfl)
end Go.Proofs.YtppncdbhebgcaaaGreatDoor
namespace Go.Proofs.YtppncdbhebgcaaaGreatDoor
open Go.RowKit

def inTo (wrong more : Int) (P : Nat → Nat) (rest out : Nat) (k : Nat) : Nat := (List.range k).foldl (fun out (c : Nat) => if more + c ≤ wrong then out ||| (P c &&& maskN rest) else out) out
theorem inTo_succ (wrong more : Int) (P : Nat → Nat) (rest out k : Nat) : inTo wrong more P rest out (k + 1) = if more + k ≤ wrong then inTo wrong more P rest out k ||| (P k &&& maskN rest) else inTo wrong more P rest out k := by
  unfold inTo
  rw [List.range_succ, List.foldl_append]
  rfl
def outTo (wrong base sh : Int) (P : Nat → Nat) (E : Nat → Int) (k : Nat) : Nat := (List.range k).foldl (fun out (rest : Nat) => inTo wrong (base + E (modI (sh + rest))) P rest out 8) 0
theorem outTo_succ (wrong base sh : Int) (P : Nat → Nat) (E : Nat → Int) (k : Nat) : outTo wrong base sh P E (k + 1) = inTo wrong (base + E (modI (sh + k))) P k (outTo wrong base sh P E k) 8 := by
  unfold outTo
  rw [List.range_succ, List.foldl_append]
  rfl
def sumsF (M : Mt) (a b : Nat) (sh : Int) : Nat := outTo M.wrong (fewQ (beforeF M a sh a) + hereW M a sh) sh (aheadF M a sh (b - a)) (endF M b) 100

set_option maxRecDepth 20000 in
set_option maxHeartbeats 16000000 in
theorem sums04 (M : Mt) (hM : ValidM M) (a b mb eb : Nat) (mt et : TypeId) (sh : Int) (p qq : Option Addr) (c d : Nat) (w : World)
    (hp : PairsAt w p M.weeks) (hq : PairsAt w qq M.reads) (hm : Blk w mb mt 2400 .u64 mskF) (he : Blk w eb et 100 .i64 (endF M b)) (hab : a ≤ b) (hb : b ≤ M.weeks.length) (hs0 : 0 ≤ sh) (hs1 : sh ≤ 99) :
    Calls Tryz.prog 127 #[.agg #[.slice p M.weeks.length c, .slice qq M.reads.length d, .int .i64 M.wrong], .int .i64 a, .int .i64 b, .int .i64 sh, .pointer (some ⟨mb, 0, none⟩), .pointer (some ⟨eb, 0, none⟩)] w (RetE (setV (sumsF M a b sh)) w) := by
  have HBF := Lib.hid (fun y (h : Ext w y) => before04 M hM a mb mt sh p qq c d y (hp.ext h) (hq.ext h) (hm.ext h) (by omega) hs0 hs1)
  have HAF := Lib.hid (fun y (h : Ext w y) => ahead04 M hM a b mb mt sh p qq c d y (hp.ext h) (hq.ext h) (hm.ext h) hab hb hs0 hs1)
  have HHF := Lib.hid (fun y (h : Ext w y) => here04 M a sh p qq c d y (hq.ext h) (by have := hM.nr; omega))
  have HMK := Lib.hid (fun y (h : Ext w y) => hm.ext h)
  have HEK := Lib.hid (fun y (h : Ext w y) => he.ext h)
  have hn7 := hM.nr
  have hn5 := hM.nw
  have hw7 := hM.wr7
  have hw0 := hM.wr0
  have hhl : hereW M a sh ≤ M.reads.length := List.countP_le_length
  have hb1 := fewQ_bd (beforeF M a sh a)
  clear hp hq hm hM he
  unfold setV
  have HSF := Lib.hid (show sumsF M a b sh = outTo M.wrong (fewQ (beforeF M a sh a) + hereW M a sh) sh (aheadF M a sh (b - a)) (endF M b) 100 from rfl)
  go_enter Tryz.func127, Tryz.ntmps127
  go_upto_region 1 with (fail)
  rw [zero24]
  obtain ⟨s0, hs0'⟩ : ∃ s0, s0 = w.heap.size := ⟨_, rfl⟩
  generalize hW : World.alloc _ _ = W
  have m0 : W.heap[s0]? = some (.cells #[.slice p M.weeks.length c, .slice qq M.reads.length d, .int .i64 M.wrong] 55) := by
    rw [hs0']; exact heap_at0 (by rw [← hW]; exact (by repeat (first | exact Ext.refl _ | assumption | refine Ext.drewN ?_ _ | refine Ext.drew ?_ | refine Ext.alloc ?_ _)))
  have br : Blk W (s0 + 1) 137 24 .u64 (fun _ => 0) := by rw [← hW, hs0']; exact Blk.new' (by simp) _ _ _ _
  have hE : Ext w W := by rw [← hW]; exact (by repeat (first | exact Ext.refl _ | assumption | refine Ext.drewN ?_ _ | refine Ext.drew ?_ | refine Ext.alloc ?_ _))
  rw [← hs0']
  have m00 : W.cell? ⟨s0, 0, none⟩ = some (.slice p M.weeks.length c) := cell_of_heap m0 0
  have m01 : W.cell? ⟨s0, 1, none⟩ = some (.slice qq M.reads.length d) := cell_of_heap m0 1
  have m02 : W.cell? ⟨s0, 2, none⟩ = some (.int .i64 M.wrong) := cell_of_heap m0 2
  have HCE := Lib.hid (fun y (h : Ext W y) => (⟨h.cell m00, h.cell m01, h.cell m02, hE.trans h, br.ext h⟩ :
    y.cell? ⟨s0, 0, none⟩ = some (.slice p M.weeks.length c) ∧ y.cell? ⟨s0, 1, none⟩ = some (.slice qq M.reads.length d) ∧ y.cell? ⟨s0, 2, none⟩ = some (.int .i64 M.wrong) ∧ Ext w y ∧ Blk y (s0 + 1) 137 24 .u64 (fun _ => 0)))
  have HS0 := Lib.hid (show w.heap.size ≤ s0 ∧ s0 + 1 < W.heap.size from ⟨by omega, br.lt⟩)
  have HB1 := Lib.hid (HBF.out W hE)
  clear hW m0 hE hs0' br HBF
  go_upto_region 2 with (first
    | (go_at_call 150; refine HB1.out.mono ?_; rintro e w1 ⟨rfl, hE1⟩)
    | (refine guardL (.store 204 (.tmp 13) (.tmp 24)) rfl ?_; rw [zero192]; refine wpList_storeB 204 _ _ iPaths rfl rfl rfl rfl (Blk.new' rfl _ _ _ _) (Nat.le_refl _) ?_))
  have bp := ((Blk.new' (w := w1) rfl 204 192 .u64 (fun _ => 0)).sets 0 (pF (beforeF M a sh a)) 192).congr (g := pF (beforeF M a sh a)) (fun j hj => by rw [if_pos (by omega), Nat.sub_zero])
  have hE2 : Ext W ((w1.alloc (.cells (rowV 192 .u64 (fun _ => 0)) 204)).setCells w1.heap.size 0 (rowV 192 .u64 (pF (beforeF M a sh a))).toList) := (hE1.alloc _).setCells hE1.size _ _
  obtain ⟨b13, hb13⟩ : ∃ b13, b13 = w1.heap.size := ⟨_, rfl⟩
  rw [← hb13] at bp hE2 ⊢
  generalize World.setCells _ _ _ _ = W2 at bp hE2 ⊢
  have HCE2 := Lib.hid (fun y (h : Ext W2 y) => HCE.out y (hE2.trans h))
  have HP13 := Lib.hid bp
  obtain ⟨k0, k1, k2, k3, -⟩ := HCE2.out W2 (Ext.refl _)
  have HA1 := Lib.hid (HAF.out W2 k3)
  clear bp hE2 hb13 hE1 HB1 HCE m00 m01 m02 k3 HAF
  go_upto_region 3 with (first
    | (go_at_call 148; refine HA1.out.mono ?_; rintro e w1 ⟨rfl, hE1⟩)
    | (refine guardL (.store 204 (.tmp 14) (.tmp 30)) rfl ?_; rw [zero192]; refine wpList_storeB 204 _ _ iPaths rfl rfl rfl rfl (Blk.new' rfl _ _ _ _) (Nat.le_refl _) ?_))
  have bp := ((Blk.new' (w := w1) rfl 204 192 .u64 (fun _ => 0)).sets 0 (pF (aheadF M a sh (b - a))) 192).congr (g := pF (aheadF M a sh (b - a))) (fun j hj => by rw [if_pos (by omega), Nat.sub_zero])
  have hE2 : Ext W2 ((w1.alloc (.cells (rowV 192 .u64 (fun _ => 0)) 204)).setCells w1.heap.size 0 (rowV 192 .u64 (pF (aheadF M a sh (b - a)))).toList) := (hE1.alloc _).setCells hE1.size _ _
  obtain ⟨b14, hb14⟩ : ∃ b14, b14 = w1.heap.size := ⟨_, rfl⟩
  rw [← hb14] at bp hE2 ⊢
  generalize World.setCells _ _ _ _ = W3 at bp hE2 ⊢
  have HCE3 := Lib.hid (fun y (h : Ext W3 y) => HCE2.out y (hE2.trans h))
  have HF13 := Lib.hid (fun y (h : Ext W3 y) => fewest04 _ b13 204 y (HP13.out.ext (hE2.trans h)))
  have HP14 := Lib.hid (fun y (h : Ext W3 y) => bp.ext h)
  obtain ⟨x1, hx1⟩ : ∃ x, x = fewQ (beforeF M a sh a) := ⟨_, rfl⟩
  obtain ⟨x2, hx2⟩ : ∃ x, x = hereW M a sh := ⟨_, rfl⟩
  rw [← hx1] at HF13 hb1 HSF
  rw [← hx2] at HHF hhl HSF
  obtain ⟨base, hbase⟩ : ∃ base : Int, x1 + (x2 : Int) = base := ⟨_, rfl⟩
  have z1 : IntKind.i64.wrap (x1 + (x2 : Int)) = base := by rw [hbase]; exact IntWalk.i64_in _ (by omega)
  rw [hbase] at HSF
  have hbb : -1 ≤ base ∧ base ≤ 20 := by omega
  clear bp hE2 hb14 hE1 HA1 HCE2 HP13 k0 k1 k2 hx1 hx2 hbase
  refine wp_region_facts 6 [[], [], [], [], [1, 2, 3], [0, 4]] [5] Ext (FL [Is (.int .i64 x1), Is (.agg #[.slice p M.weeks.length c, .slice qq M.reads.length d, .int .i64 M.wrong]), Is (.int .i64 (a : Int)), Is (.int .i64 sh), Is (.int .i64 (x2 : Int)), Is (.int .i64 base)]) (by kernel_rfl) (by kernel_rfl) Ext.refl (fun _ _ _ => Ext.trans) (fun _ _ => Ext.size) (FL.mono ⟨Is.mono, Is.mono, Is.mono, Is.mono, Is.mono, Is.mono, trivial⟩) ⟨?_, ?_, ?_, ?_, ?_, ?_, trivial⟩ ?_
  · refine opF_step ?_
    intro ys l0 h0 w' hr hf K hK
    clear hf
    simp only [fill, Act.put, dstO, List.take_succ_cons, List.take_zero, List.setIfInBounds_toArray, List.set_cons_zero, List.set_cons_succ, List.getElem?_cons_zero, Nat.zero_add, Nat.reduceAdd] at hK ⊢
    refine OpB.mk' ?_
    go_simp
    refine (HF13.out w' ((Ext.refl W3).drew.trans hr)).mono ?_
    rintro e w2 ⟨rfl, hE2⟩
    exact hK.out _ _ rfl hE2
  · refine opF_step ?_
    intro ys l0 h0 w' hr hf K hK
    clear hf
    obtain ⟨j0, j1, j2, j3, -⟩ := HCE3.out w' ((Ext.refl W3).drew.trans hr)
    simp only [fill, Act.put, dstO, List.take_succ_cons, List.take_zero, List.setIfInBounds_toArray, List.set_cons_zero, List.set_cons_succ, List.getElem?_cons_zero, List.getElem?_cons_succ, Nat.zero_add, Nat.reduceAdd] at hK ⊢
    refine OpB.mk' ?_
    go_simp
    exact hK.out _ _ rfl (Ext.refl _)
  · refine opF_step ?_
    intro ys l0 h0 w' hr hf K hK
    clear hf
    simp only [fill, Act.put, dstO, List.take_succ_cons, List.take_zero, List.setIfInBounds_toArray, List.set_cons_zero, List.set_cons_succ, List.getElem?_cons_zero, List.getElem?_cons_succ, Nat.zero_add, Nat.reduceAdd] at hK ⊢
    refine OpB.mk' ?_
    go_simp
    exact hK.out _ _ rfl (Ext.refl _)
  · refine opF_step ?_
    intro ys l0 h0 w' hr hf K hK
    clear hf
    simp only [fill, Act.put, dstO, List.take_succ_cons, List.take_zero, List.setIfInBounds_toArray, List.set_cons_zero, List.set_cons_succ, List.getElem?_cons_zero, List.getElem?_cons_succ, Nat.zero_add, Nat.reduceAdd] at hK ⊢
    refine OpB.mk' ?_
    go_simp
    exact hK.out _ _ rfl (Ext.refl _)
  · refine opF_step ?_
    intro ys l0 h0 w' hr hf K hK
    obtain ⟨f0, f1, f2, -⟩ := hf
    have e0 : ys 1 = _ := f0
    have e1 : ys 2 = _ := f1
    have e2 : ys 3 = _ := f2
    obtain ⟨j0, j1, j2, j3, -⟩ := HCE3.out w' ((Ext.refl W3).drew.trans hr)
    simp only [fill, Act.put, dstO, List.take_succ_cons, List.take_zero, List.setIfInBounds_toArray, List.set_cons_zero, List.set_cons_succ, List.getElem?_cons_zero, List.getElem?_cons_succ, Nat.zero_add, Nat.reduceAdd] at hK ⊢
    simp only [e0, e1, e2] at hK ⊢
    clear e0 e1 e2 f0 f1 f2
    refine OpB.mk' ?_
    go_simp
    refine (HHF.out w' j3).mono ?_
    rintro e w2 ⟨rfl, hE2⟩
    exact hK.out _ _ rfl hE2
  · refine opF_step ?_
    intro ys l0 h0 w' hr hf K hK
    obtain ⟨f0, f1, -⟩ := hf
    have e0 : ys 0 = _ := f0
    have e1 : ys 4 = _ := f1
    simp only [fill, Act.put, dstO, List.take_succ_cons, List.take_zero, List.setIfInBounds_toArray, List.set_cons_zero, List.set_cons_succ, List.getElem?_cons_zero, List.getElem?_cons_succ, Nat.zero_add, Nat.reduceAdd] at hK ⊢
    simp only [e0, e1] at hK ⊢
    clear e0 e1 f0 f1
    refine OpB.mk' ?_
    go_simp
    exact hK.out _ _ rfl (Ext.refl _)
  intro ys l0 h0 w2 hr hf hsp
  obtain ⟨f5, -⟩ := hf
  have e5 : ys 5 = _ := f5
  simp only [fill, Act.put, List.take_succ_cons, List.take_zero, List.setIfInBounds_toArray, List.set_cons_zero, List.set_cons_succ, Nat.zero_add, Nat.reduceAdd, List.drop_succ_cons, List.drop_zero]
  rw [e5]
  clear e5 f5 hsp
  have hE4 : Ext W3 w2 := (Ext.refl W3).drew.trans hr
  have HE4 := Lib.hid hE4
  clear hE4 hr hb1 hhl HF13 HHF z1
  go_upto_region 5 with (fail)
  rw [zero24]
  obtain ⟨b16, hb16⟩ : ∃ b16, b16 = w2.heap.size := ⟨_, rfl⟩
  have n16 := Blk.new' hb16.symm 137 24 .u64 (fun _ => 0)
  have hE5 : Ext W3 (w2.alloc (.cells (rowV 24 .u64 (fun _ => 0)) 137)) := HE4.out.alloc _
  rw [← hb16]
  have hlt16 : W3.heap.size ≤ b16 := by rw [hb16]; exact HE4.out.size
  generalize World.alloc _ _ = W5 at n16 hE5 ⊢
  obtain ⟨P, hP⟩ : ∃ P, P = aheadF M a sh (b - a) := ⟨_, rfl⟩
  rw [← hP] at HP14 HSF
  have HCE5 := Lib.hid (fun y (h : Ups b16 W5 y) => (show (y.cell? ⟨s0, 0, none⟩ = some (.slice p M.weeks.length c) ∧ y.cell? ⟨s0, 1, none⟩ = some (.slice qq M.reads.length d) ∧ y.cell? ⟨s0, 2, none⟩ = some (.int .i64 M.wrong) ∧ Ext w y ∧ Blk y (s0 + 1) 137 24 .u64 (fun _ => 0)) ∧ Blk y b14 204 192 .u64 (pF P) from
    ⟨HCE3.out y (hE5.ups h hlt16), HP14.out y (hE5.ups h hlt16)⟩))
  have HN16 := Lib.hid (n16.congr (g := setF 0) (fun j _ => by unfold setF; rw [wd_zero]; rfl))
  have H16 := Lib.hid hlt16
  clear n16 hE5 hb16 hlt16 HE4 HCE3 HP14 hP
  go_wp2
  go_loopw [37] (fun x wr => ∃ k : Nat, k ≤ 100 ∧ x = .int .i64 k ∧ Ups b16 W5 wr ∧ Blk wr b16 137 24 .u64 (setF (outTo M.wrong base sh P (endF M b) k))) (fun x _ => 100 - (intOf x).toNat)
  case atStart => exact ⟨0, by omega, rfl, Ups.refl _ _, HN16.out⟩
  case round =>
    obtain ⟨k, hk, rfl, hU, hB⟩ := hrel
    have HUR := Lib.hid hU
    have HBR := Lib.hid hB
    obtain ⟨⟨k0, k1, k2, k3, k4⟩, k5⟩ := HCE5.out wr hU
    have HEW := Lib.hid k3
    have HZ1 := Lib.hid k4
    clear hU hB HN16 k3 k4 k5
    by_cases hlt : k < 100
    · have hlt' : (k : Int) < 100 := by omega
      obtain ⟨m, hmm⟩ : ∃ m : Nat, (sh + (k : Int)) % 100 = (m : Int) := ⟨((sh + (k : Int)) % 100).toNat, by omega⟩
      have hm1 : (m : Int) < 100 := by omega
      have HMD := Lib.hid (fun y => hmm ▸ mod04 (sh + (k : Int)) y)
      have z2 : IntKind.i64.wrap (sh + (k : Int)) = sh + (k : Int) := IntWalk.i64_in _ (by omega)
      have hfb := fewQ_bd (aheadF M b (m : Int) (M.weeks.length - b))
      have hsu := outTo_succ M.wrong base sh P (endF M b) k
      rw [show modI (sh + (k : Int)) = m by unfold modI; omega] at hsu
      obtain ⟨x3, hx3⟩ : ∃ x, endF M b m = x := ⟨_, rfl⟩
      have hx3b : -1 ≤ x3 ∧ x3 ≤ 7 := by rw [← hx3]; exact hfb
      have HEM := Lib.hid (fun y (h : Ext w y) => (hx3 ▸ (HEK.out y h).cell (j := m) (by omega) : y.cell? ⟨eb, m, none⟩ = some (.int .i64 x3)))
      rw [hx3] at hsu
      obtain ⟨more, hmore⟩ : ∃ more, base + x3 = more := ⟨_, rfl⟩
      have z3 : IntKind.i64.wrap (base + x3) = more := by rw [hmore]; exact IntWalk.i64_in _ (by omega)
      rw [hmore] at hsu
      have hmb : -2 ≤ more ∧ more ≤ 30 := by omega
      have HSU := Lib.hid hsu
      clear hsu hfb hx3 hmore hmm
      go_upto_region 8 with (fail)
      refine wp_region_facts 10 [[], [], [], [], [2, 3], [4], [1], [6, 5], [7], [0, 8]] [9] Ext (FL [Is (.int .i64 base), Is (.pointer (some ⟨eb, 0, none⟩)), Is (.int .i64 sh), Is (.int .i64 (k : Int)), Is (.int .i64 (sh + (k : Int))), Is (.int .i64 (m : Int)), Is (.pointer (some ⟨eb, 0, none⟩)), Is (.pointer (some ⟨eb, m, none⟩)), Is (.int .i64 x3), Is (.int .i64 more)]) (by kernel_rfl) (by kernel_rfl) Ext.refl (fun _ _ _ => Ext.trans) (fun _ _ => Ext.size) (FL.mono ⟨Is.mono, Is.mono, Is.mono, Is.mono, Is.mono, Is.mono, Is.mono, Is.mono, Is.mono, Is.mono, trivial⟩) ⟨?_, ?_, ?_, ?_, ?_, ?_, ?_, ?_, ?_, ?_, trivial⟩ ?_
      · refine opF_step ?_
        intro ys l0 h0 w' hr hf K hK
        clear hf
        simp only [fill, Act.put, dstO, List.take_succ_cons, List.take_zero, List.setIfInBounds_toArray, List.set_cons_zero, List.set_cons_succ, List.getElem?_cons_zero, Nat.zero_add, Nat.reduceAdd] at hK ⊢
        refine OpB.mk' ?_
        go_simp
        exact hK.out _ _ rfl (Ext.refl _)
      · refine opF_step ?_
        intro ys l0 h0 w' hr hf K hK
        clear hf
        simp only [fill, Act.put, dstO, List.take_succ_cons, List.take_zero, List.setIfInBounds_toArray, List.set_cons_zero, List.set_cons_succ, List.getElem?_cons_zero, List.getElem?_cons_succ, Nat.zero_add, Nat.reduceAdd] at hK ⊢
        refine OpB.mk' ?_
        go_simp
        exact hK.out _ _ rfl (Ext.refl _)
      · refine opF_step ?_
        intro ys l0 h0 w' hr hf K hK
        clear hf
        simp only [fill, Act.put, dstO, List.take_succ_cons, List.take_zero, List.setIfInBounds_toArray, List.set_cons_zero, List.set_cons_succ, List.getElem?_cons_zero, List.getElem?_cons_succ, Nat.zero_add, Nat.reduceAdd] at hK ⊢
        refine OpB.mk' ?_
        go_simp
        exact hK.out _ _ rfl (Ext.refl _)
      · refine opF_step ?_
        intro ys l0 h0 w' hr hf K hK
        clear hf
        simp only [fill, Act.put, dstO, List.take_succ_cons, List.take_zero, List.setIfInBounds_toArray, List.set_cons_zero, List.set_cons_succ, List.getElem?_cons_zero, List.getElem?_cons_succ, Nat.zero_add, Nat.reduceAdd] at hK ⊢
        refine OpB.mk' ?_
        go_simp
        exact hK.out _ _ rfl (Ext.refl _)
      · refine opF_step ?_
        intro ys l0 h0 w' hr hf K hK
        obtain ⟨f0, f1, -⟩ := hf
        have e0 : ys 2 = _ := f0
        have e1 : ys 3 = _ := f1
        simp only [fill, Act.put, dstO, List.take_succ_cons, List.take_zero, List.setIfInBounds_toArray, List.set_cons_zero, List.set_cons_succ, List.getElem?_cons_zero, List.getElem?_cons_succ, Nat.zero_add, Nat.reduceAdd] at hK ⊢
        simp only [e0, e1] at hK ⊢
        clear e0 e1 f0 f1
        refine OpB.mk' ?_
        go_simp
        exact hK.out _ _ rfl (Ext.refl _)
      · refine opF_step ?_
        intro ys l0 h0 w' hr hf K hK
        obtain ⟨f0, -⟩ := hf
        have e0 : ys 4 = _ := f0
        simp only [fill, Act.put, dstO, List.take_succ_cons, List.take_zero, List.setIfInBounds_toArray, List.set_cons_zero, List.set_cons_succ, List.getElem?_cons_zero, List.getElem?_cons_succ, Nat.zero_add, Nat.reduceAdd] at hK ⊢
        simp only [e0] at hK ⊢
        clear e0 f0
        refine OpB.mk' ?_
        go_simp
        refine (HMD.out w').mono ?_
        rintro e w2 ⟨rfl, hE2⟩
        exact hK.out _ _ rfl hE2
      · refine opF_step ?_
        intro ys l0 h0 w' hr hf K hK
        obtain ⟨f0, -⟩ := hf
        have e0 : ys 1 = _ := f0
        simp only [fill, Act.put, dstO, List.take_succ_cons, List.take_zero, List.setIfInBounds_toArray, List.set_cons_zero, List.set_cons_succ, List.getElem?_cons_zero, List.getElem?_cons_succ, Nat.zero_add, Nat.reduceAdd] at hK ⊢
        simp only [e0] at hK ⊢
        clear e0 f0
        refine OpB.mk' ?_
        go_simp
        exact hK.out _ _ rfl (Ext.refl _)
      · refine opF_step ?_
        intro ys l0 h0 w' hr hf K hK
        obtain ⟨f0, f1, -⟩ := hf
        have e0 : ys 6 = _ := f0
        have e1 : ys 5 = _ := f1
        simp only [fill, Act.put, dstO, List.take_succ_cons, List.take_zero, List.setIfInBounds_toArray, List.set_cons_zero, List.set_cons_succ, List.getElem?_cons_zero, List.getElem?_cons_succ, Nat.zero_add, Nat.reduceAdd] at hK ⊢
        simp only [e0, e1] at hK ⊢
        clear e0 e1 f0 f1
        refine OpB.mk' ?_
        go_simp
        exact hK.out _ _ rfl (Ext.refl _)
      · refine opF_step ?_
        intro ys l0 h0 w' hr hf K hK
        obtain ⟨f0, -⟩ := hf
        have e0 : ys 7 = _ := f0
        have hcm := HEM.out w' (HEW.out.drew.trans hr)
        simp only [fill, Act.put, dstO, List.take_succ_cons, List.take_zero, List.setIfInBounds_toArray, List.set_cons_zero, List.set_cons_succ, List.getElem?_cons_zero, List.getElem?_cons_succ, Nat.zero_add, Nat.reduceAdd] at hK ⊢
        simp only [e0] at hK ⊢
        clear e0 f0
        refine OpB.mk' ?_
        go_simp
        exact hK.out _ _ rfl (Ext.refl _)
      · refine opF_step ?_
        intro ys l0 h0 w' hr hf K hK
        obtain ⟨f0, f1, -⟩ := hf
        have e0 : ys 0 = _ := f0
        have e1 : ys 8 = _ := f1
        simp only [fill, Act.put, dstO, List.take_succ_cons, List.take_zero, List.setIfInBounds_toArray, List.set_cons_zero, List.set_cons_succ, List.getElem?_cons_zero, List.getElem?_cons_succ, Nat.zero_add, Nat.reduceAdd] at hK ⊢
        simp only [e0, e1] at hK ⊢
        clear e0 e1 f0 f1
        refine OpB.mk' ?_
        go_simp
        exact hK.out _ _ rfl (Ext.refl _)
      intro ys l0 h0 w2 hr hf hsp
      obtain ⟨f9, -⟩ := hf
      have e9 : ys 9 = _ := f9
      simp only [fill, Act.put, List.take_succ_cons, List.take_zero, List.setIfInBounds_toArray, List.set_cons_zero, List.set_cons_succ, Nat.zero_add, Nat.reduceAdd, List.drop_succ_cons, List.drop_zero]
      rw [e9]
      clear e9 f9 hsp
      have HU8 := Lib.hid (HUR.out.drew.trans (Ups.ext hr))
      have HB8 := Lib.hid (HBR.out.drew.ext hr)
      obtain ⟨T, hT⟩ : ∃ T, T = outTo M.wrong base sh P (endF M b) k := ⟨_, rfl⟩
      rw [← hT] at HSU HB8
      clear hr HUR HBR z2 z3 HMD HEM hT k0 k1 k2 HEW HZ1 hx3b
      go_wp2
      go_loopw [50] (fun x wr2 => ∃ j : Nat, j ≤ 8 ∧ x = .int .i64 j ∧ Ups b16 W5 wr2 ∧ Blk wr2 b16 137 24 .u64 (setF (inTo M.wrong more P k T j))) (fun x _ => 8 - (intOf x).toNat)
      case atStart => exact ⟨0, by omega, rfl, HU8.out, HB8.out⟩
      case round =>
        obtain ⟨j, hj, rfl, hU, hB⟩ := hrel
        have HUA := Lib.hid hU
        have HBA := Lib.hid hB
        obtain ⟨⟨k0, k1, k2, k3, k4⟩, k5⟩ := HCE5.out _ hU
        have HEW := Lib.hid k3
        have H14 := Lib.hid k5
        clear hU hB HU8 HB8 k3 k4 k5
        by_cases hlj : j < 8
        · have hlj' : (j : Int) < 8 := by omega
          have hin := inTo_succ M.wrong more P k T j
          have z4 : IntKind.i64.wrap (more + (j : Int)) = more + (j : Int) := IntWalk.i64_in _ (by omega)
          by_cases hle : more + (j : Int) ≤ M.wrong
          · rw [if_pos hle] at hin
            have HIN := Lib.hid hin
            have g1 : decide (more + (j : Int) ≤ M.wrong) = true := decide_eq_true hle
            have HM14 := Lib.hid (HMK.out _ HEW.out)
            obtain ⟨Q, hQ⟩ : ∃ Q, Q = inTo M.wrong more P k T j := ⟨_, rfl⟩
            rw [← hQ] at HIN HBA
            clear hin hle hQ
            go_upto_region 13 with (fail)
            refine wp_region_facts 11 [[], [], [1], [2], [], [], [4], [6, 5], [7], [3, 8], [0, 9]] [10] Ext (FL [Is (.agg (rowV 24 .u64 (setF Q))), Is (.int .i64 (j : Int)), Is (.pointer (some ⟨b14, j * 24, none⟩)), Is (.agg (rowV 24 .u64 (setF (P j)))), Is (.pointer (some ⟨mb, 0, none⟩)), Is (.int .i64 (k : Int)), Is (.pointer (some ⟨mb, 0, none⟩)), Is (.pointer (some ⟨mb, k * 24, none⟩)), Is (.agg (rowV 24 .u64 (setF (maskN k)))), Is (.agg (rowV 24 .u64 (setF (P j &&& maskN k)))), Is (.agg (rowV 24 .u64 (setF (Q ||| (P j &&& maskN k)))))]) (by kernel_rfl) (by kernel_rfl) Ext.refl (fun _ _ _ => Ext.trans) (fun _ _ => Ext.size) (FL.mono ⟨Is.mono, Is.mono, Is.mono, Is.mono, Is.mono, Is.mono, Is.mono, Is.mono, Is.mono, Is.mono, Is.mono, trivial⟩) ⟨?_, ?_, ?_, ?_, ?_, ?_, ?_, ?_, ?_, ?_, ?_, trivial⟩ ?_
            · refine opF_step ?_
              intro ys l0 h0 w' hr hf K hK
              clear hf
              simp only [fill, Act.put, dstO, List.take_succ_cons, List.take_zero, List.setIfInBounds_toArray, List.set_cons_zero, List.set_cons_succ, List.getElem?_cons_zero, Nat.zero_add, Nat.reduceAdd] at hK ⊢
              refine OpB.mkG rfl (wp_loadB 137 _ _ Tryz.underlying137 rfl iSet rfl rfl (HBA.out.drew.ext hr) (by omega) ?_)
              rw [row0]
              exact hK.out _ _ rfl (Ext.refl _)
            · refine opF_step ?_
              intro ys l0 h0 w' hr hf K hK
              clear hf
              simp only [fill, Act.put, dstO, List.take_succ_cons, List.take_zero, List.setIfInBounds_toArray, List.set_cons_zero, List.set_cons_succ, List.getElem?_cons_zero, List.getElem?_cons_succ, Nat.zero_add, Nat.reduceAdd] at hK ⊢
              refine OpB.mk' ?_
              go_simp
              exact hK.out _ _ rfl (Ext.refl _)
            · refine opF_step ?_
              intro ys l0 h0 w' hr hf K hK
              obtain ⟨f0, -⟩ := hf
              have e0 : ys 1 = _ := f0
              simp only [fill, Act.put, dstO, List.take_succ_cons, List.take_zero, List.setIfInBounds_toArray, List.set_cons_zero, List.set_cons_succ, List.getElem?_cons_zero, List.getElem?_cons_succ, Nat.zero_add, Nat.reduceAdd] at hK ⊢
              simp only [e0] at hK ⊢
              clear e0 f0
              refine OpB.mk' ?_
              go_simp
              exact hK.out _ _ rfl (Ext.refl _)
            · refine opF_step ?_
              intro ys l0 h0 w' hr hf K hK
              obtain ⟨f0, -⟩ := hf
              have e0 : ys 2 = _ := f0
              simp only [fill, Act.put, dstO, List.take_succ_cons, List.take_zero, List.setIfInBounds_toArray, List.set_cons_zero, List.set_cons_succ, List.getElem?_cons_zero, List.getElem?_cons_succ, Nat.zero_add, Nat.reduceAdd] at hK ⊢
              simp only [e0] at hK ⊢
              clear e0 f0
              refine OpB.mkG rfl (wp_loadB 137 _ _ Tryz.underlying137 rfl iSet rfl rfl (H14.out.drew.ext hr) (by omega) ?_)
              rw [pF_row]
              exact hK.out _ _ rfl (Ext.refl _)
            · refine opF_step ?_
              intro ys l0 h0 w' hr hf K hK
              clear hf
              simp only [fill, Act.put, dstO, List.take_succ_cons, List.take_zero, List.setIfInBounds_toArray, List.set_cons_zero, List.set_cons_succ, List.getElem?_cons_zero, List.getElem?_cons_succ, Nat.zero_add, Nat.reduceAdd] at hK ⊢
              refine OpB.mk' ?_
              go_simp
              exact hK.out _ _ rfl (Ext.refl _)
            · refine opF_step ?_
              intro ys l0 h0 w' hr hf K hK
              clear hf
              simp only [fill, Act.put, dstO, List.take_succ_cons, List.take_zero, List.setIfInBounds_toArray, List.set_cons_zero, List.set_cons_succ, List.getElem?_cons_zero, List.getElem?_cons_succ, Nat.zero_add, Nat.reduceAdd] at hK ⊢
              refine OpB.mk' ?_
              go_simp
              exact hK.out _ _ rfl (Ext.refl _)
            · refine opF_step ?_
              intro ys l0 h0 w' hr hf K hK
              obtain ⟨f0, -⟩ := hf
              have e0 : ys 4 = _ := f0
              simp only [fill, Act.put, dstO, List.take_succ_cons, List.take_zero, List.setIfInBounds_toArray, List.set_cons_zero, List.set_cons_succ, List.getElem?_cons_zero, List.getElem?_cons_succ, Nat.zero_add, Nat.reduceAdd] at hK ⊢
              simp only [e0] at hK ⊢
              clear e0 f0
              refine OpB.mk' ?_
              go_simp
              exact hK.out _ _ rfl (Ext.refl _)
            · refine opF_step ?_
              intro ys l0 h0 w' hr hf K hK
              obtain ⟨f0, f1, -⟩ := hf
              have e0 : ys 6 = _ := f0
              have e1 : ys 5 = _ := f1
              simp only [fill, Act.put, dstO, List.take_succ_cons, List.take_zero, List.setIfInBounds_toArray, List.set_cons_zero, List.set_cons_succ, List.getElem?_cons_zero, List.getElem?_cons_succ, Nat.zero_add, Nat.reduceAdd] at hK ⊢
              simp only [e0, e1] at hK ⊢
              clear e0 e1 f0 f1
              refine OpB.mk' ?_
              go_simp
              exact hK.out _ _ rfl (Ext.refl _)
            · refine opF_step ?_
              intro ys l0 h0 w' hr hf K hK
              obtain ⟨f0, -⟩ := hf
              have e0 : ys 7 = _ := f0
              simp only [fill, Act.put, dstO, List.take_succ_cons, List.take_zero, List.setIfInBounds_toArray, List.set_cons_zero, List.set_cons_succ, List.getElem?_cons_zero, List.getElem?_cons_succ, Nat.zero_add, Nat.reduceAdd] at hK ⊢
              simp only [e0] at hK ⊢
              clear e0 f0
              refine OpB.mkG rfl (wp_loadB 137 _ _ Tryz.underlying137 rfl iSet rfl rfl (HM14.out.drew.ext hr) (by omega) ?_)
              rw [mskF_row]
              exact hK.out _ _ rfl (Ext.refl _)
            · refine opF_step ?_
              intro ys l0 h0 w' hr hf K hK
              obtain ⟨f0, f1, -⟩ := hf
              have e0 : ys 3 = _ := f0
              have e1 : ys 8 = _ := f1
              simp only [fill, Act.put, dstO, List.take_succ_cons, List.take_zero, List.setIfInBounds_toArray, List.set_cons_zero, List.set_cons_succ, List.getElem?_cons_zero, List.getElem?_cons_succ, Nat.zero_add, Nat.reduceAdd] at hK ⊢
              simp only [e0, e1] at hK ⊢
              clear e0 e1 f0 f1
              refine OpB.mk' ?_
              go_simp
              refine (andTS04 (P j) (maskN k) w').mono ?_
              rintro e w2 ⟨rfl, hE2⟩
              exact hK.out _ _ rfl hE2
            · refine opF_step ?_
              intro ys l0 h0 w' hr hf K hK
              obtain ⟨f0, f1, -⟩ := hf
              have e0 : ys 0 = _ := f0
              have e1 : ys 9 = _ := f1
              simp only [fill, Act.put, dstO, List.take_succ_cons, List.take_zero, List.setIfInBounds_toArray, List.set_cons_zero, List.set_cons_succ, List.getElem?_cons_zero, List.getElem?_cons_succ, Nat.zero_add, Nat.reduceAdd] at hK ⊢
              simp only [e0, e1] at hK ⊢
              clear e0 e1 f0 f1
              refine OpB.mk' ?_
              go_simp
              refine (orS04 Q (P j &&& maskN k) w').mono ?_
              rintro e w2 ⟨rfl, hE2⟩
              exact hK.out _ _ rfl hE2
            intro ys l0 h0 w2 hr hf hsp
            obtain ⟨f10, -⟩ := hf
            have e10 : ys 10 = _ := f10
            simp only [fill, Act.put, List.take_succ_cons, List.take_zero, List.setIfInBounds_toArray, List.set_cons_zero, List.set_cons_succ, Nat.zero_add, Nat.reduceAdd, List.drop_succ_cons, List.drop_zero]
            rw [e10]
            clear e10 f10 hsp
            have nb := HBA.out.drew.ext hr
            refine wpList_storeB 137 _ _ iSet rfl rfl rfl rfl nb (by omega) ?_
            refine wpList_nil ?_
            have n2 := (nb.sets 0 (setF (Q ||| (P j &&& maskN k))) 24).congr (g := setF (inTo M.wrong more P k T (j + 1))) (fun i hi => by rw [if_pos (by omega), Nat.sub_zero, HIN.out])
            have u2 := (HUA.out.drew.trans (Ups.ext hr)).setCells 0 (rowV 24 .u64 (setF (Q ||| (P j &&& maskN k)))).toList
            generalize World.setCells w2 _ _ _ = W9 at n2 u2 ⊢
            have N2 := Lib.hid n2
            have U2 := Lib.hid u2
            clear n2 u2 nb hr HBA HUA HIN H14 HM14 HEW k0 k1 k2 z4
            go_wp2
            go_roundw
            case rel => exact ⟨j + 1, by omega, by simp, U2.out, N2.out⟩
            case measure => simp [intOf]; omega
          · rw [if_neg hle] at hin
            have HIN := Lib.hid hin
            have g1 : decide (more + (j : Int) ≤ M.wrong) = false := decide_eq_false hle
            have HB9 := Lib.hid (show Blk _ b16 137 24 .u64 (setF (inTo M.wrong more P k T (j + 1))) from by rw [HIN.out]; exact HBA.out)
            clear hin hle HIN HBA
            go_wp2
            go_roundw
            case rel => exact ⟨j + 1, by omega, by simp, HUA.out, HB9.out⟩
            case measure => simp [intOf]; omega
        · obtain rfl : j = 8 := by omega
          have HB9 := Lib.hid (show Blk _ b16 137 24 .u64 (setF (outTo M.wrong base sh P (endF M b) (k + 1))) from by rw [HSU.out]; exact HBA.out)
          clear HBA HSU k0 k1 k2
          go_wp2
          go_roundw
          case rel => exact ⟨k + 1, by omega, by simp, HUA.out, HB9.out⟩
          case measure => simp [intOf]; omega
    · obtain rfl : k = 100 := by omega
      rw [← HSF.out] at HBR
      clear k0 k1 k2
      go_upto_region 16 with (fail)
      refine wp_region_lit (wpList_loadB 137 _ _ Tryz.underlying137 rfl iSet rfl rfl rfl HBR.out (Nat.le_refl _) ?_)
      rw [row0]
      refine wpList_storeB 137 _ _ iSet rfl rfl rfl rfl HZ1.out (Nat.le_refl _) ?_
      refine wpList_nil ?_
      have HF := Lib.hid (HZ1.out.sets 0 (setF (sumsF M a b sh)) 24)
      have HFE : Ext w _ := Ext.setCells (b := s0 + 1) HEW.out (by have := HS0.out; omega) 0 (rowV 24 .u64 (setF (sumsF M a b sh))).toList
      generalize World.setCells wr _ _ _ = W9 at HF HFE ⊢
      have HG := Lib.hid (HF.out.congr (g := setF (sumsF M a b sh)) (fun j hj => by rw [if_pos (by omega), Nat.sub_zero]))
      have HFE := Lib.hid HFE
      go_wp2
      exact ret_row 137 _ rfl rfl HG.out Tryz.underlying137 rfl iSet rfl (RetE.fin HFE.out rfl)
end Go.Proofs.YtppncdbhebgcaaaGreatDoor
namespace Go.Proofs.YtppncdbhebgcaaaGreatDoor
open Go.RowKit

def betTo (M : Mt) (a b k : Nat) : Nat := (List.range k).foldl (fun out (s : Nat) => out ||| sumsF M a b s) 0
theorem betTo_succ (M : Mt) (a b k : Nat) : betTo M a b (k + 1) = betTo M a b k ||| sumsF M a b k := by
  unfold betTo
  rw [List.range_succ, List.foldl_append]
  rfl

set_option maxRecDepth 20000 in
set_option maxHeartbeats 16000000 in
theorem between04 (M : Mt) (hM : ValidM M) (a b : Nat) (p qq : Option Addr) (c d : Nat) (w : World)
    (hp : PairsAt w p M.weeks) (hq : PairsAt w qq M.reads) (hab : a ≤ b) (hb : b ≤ M.weeks.length) :
    Calls Tryz.prog 86 #[.agg #[.slice p M.weeks.length c, .slice qq M.reads.length d, .int .i64 M.wrong], .int .i64 a, .int .i64 b] w (RetE (setV (betTo M a b 100)) w) := by
  have HP := Lib.hid hp
  have HQ := Lib.hid hq
  have HVM := Lib.hid hM
  have hn5 := hM.nw
  clear hp hq hM
  unfold setV
  go_enter Tryz.func86, Tryz.ntmps86
  go_upto_region 1 with (fail)
  rw [zero24]
  obtain ⟨s0, hs0'⟩ : ∃ s0, s0 = w.heap.size := ⟨_, rfl⟩
  generalize hW : World.alloc _ _ = W
  have m0 : W.heap[s0]? = some (.cells #[.slice p M.weeks.length c, .slice qq M.reads.length d, .int .i64 M.wrong] 55) := by
    rw [hs0']; exact heap_at0 (by rw [← hW]; exact (by repeat (first | exact Ext.refl _ | assumption | refine Ext.drewN ?_ _ | refine Ext.drew ?_ | refine Ext.alloc ?_ _)))
  have br : Blk W (s0 + 1) 137 24 .u64 (fun _ => 0) := by rw [← hW, hs0']; exact Blk.new' (by simp) _ _ _ _
  have hE : Ext w W := by rw [← hW]; exact (by repeat (first | exact Ext.refl _ | assumption | refine Ext.drewN ?_ _ | refine Ext.drew ?_ | refine Ext.alloc ?_ _))
  rw [← hs0']
  have m00 : W.cell? ⟨s0, 0, none⟩ = some (.slice p M.weeks.length c) := cell_of_heap m0 0
  have m01 : W.cell? ⟨s0, 1, none⟩ = some (.slice qq M.reads.length d) := cell_of_heap m0 1
  have m02 : W.cell? ⟨s0, 2, none⟩ = some (.int .i64 M.wrong) := cell_of_heap m0 2
  have HCE := Lib.hid (fun y (h : Ext W y) => (⟨h.cell m00, h.cell m01, h.cell m02, hE.trans h, br.ext h⟩ :
    y.cell? ⟨s0, 0, none⟩ = some (.slice p M.weeks.length c) ∧ y.cell? ⟨s0, 1, none⟩ = some (.slice qq M.reads.length d) ∧ y.cell? ⟨s0, 2, none⟩ = some (.int .i64 M.wrong) ∧ Ext w y ∧ Blk y (s0 + 1) 137 24 .u64 (fun _ => 0)))
  have HS0 := Lib.hid (show w.heap.size ≤ s0 ∧ s0 + 1 < W.heap.size from ⟨by omega, br.lt⟩)
  clear hW m0 hE hs0' br m00 m01 m02
  have HMS := Lib.hid (masks04 W)
  go_upto_region 2 with (first
    | (go_at_call 124; refine HMS.out.mono ?_; rintro e w1 ⟨rfl, hE1⟩)
    | (refine guardL (.store 180 (.tmp 7) (.tmp 11)) rfl ?_; rw [zero2400]; refine wpList_storeB 180 _ _ iMasks rfl rfl rfl rfl (Blk.new' rfl _ _ _ _) (Nat.le_refl _) ?_))
  have bm := ((Blk.new' (w := w1) rfl 180 2400 .u64 (fun _ => 0)).sets 0 mskF 2400).congr (g := mskF) (fun j hj => by rw [if_pos (by omega), Nat.sub_zero])
  have hE2 : Ext W ((w1.alloc (.cells (rowV 2400 .u64 (fun _ => 0)) 180)).setCells w1.heap.size 0 (rowV 2400 .u64 mskF).toList) := (hE1.alloc _).setCells hE1.size _ _
  obtain ⟨mb, hmb⟩ : ∃ mb, mb = w1.heap.size := ⟨_, rfl⟩
  rw [← hmb] at bm hE2 ⊢
  generalize World.setCells _ _ _ _ = W2 at bm hE2 ⊢
  have HCE2 := Lib.hid (fun y (h : Ext W2 y) => HCE.out y (hE2.trans h))
  have HBM := Lib.hid bm
  obtain ⟨k0, k1, k2, k3, -⟩ := HCE2.out W2 (Ext.refl _)
  have HEN := Lib.hid (ends04 M HVM.out b mb 180 p qq c d W2 (HP.out.ext k3) (HQ.out.ext k3) bm hb)
  clear bm hE2 hmb hE1 HMS HCE k3
  go_upto_region 3 with (first
    | (go_at_call 125; refine HEN.out.mono ?_; rintro e w1 ⟨rfl, hE1⟩)
    | (refine guardL (.store 182 (.tmp 8) (.tmp 14)) rfl ?_; rw [zero100]; refine wpList_storeB 182 _ _ iInts rfl rfl rfl rfl (Blk.new' rfl _ _ _ _) (Nat.le_refl _) ?_))
  have be := ((Blk.new' (w := w1) rfl 182 100 .i64 (fun _ => 0)).sets 0 (endF M b) 100).congr (g := endF M b) (fun j hj => by rw [if_pos (by omega), Nat.sub_zero])
  have hE2 : Ext W2 ((w1.alloc (.cells (rowV 100 .i64 (fun _ => 0)) 182)).setCells w1.heap.size 0 (rowV 100 .i64 (endF M b)).toList) := (hE1.alloc _).setCells hE1.size _ _
  obtain ⟨eb, heb⟩ : ∃ eb, eb = w1.heap.size := ⟨_, rfl⟩
  rw [← heb] at be hE2 ⊢
  generalize World.setCells _ _ _ _ = W3 at be hE2 ⊢
  have HCE3 := Lib.hid (fun y (h : Ext W3 y) => (⟨HCE2.out y (hE2.trans h), HBM.out.ext (hE2.trans h), be.ext h⟩ :
    (y.cell? ⟨s0, 0, none⟩ = some (.slice p M.weeks.length c) ∧ y.cell? ⟨s0, 1, none⟩ = some (.slice qq M.reads.length d) ∧ y.cell? ⟨s0, 2, none⟩ = some (.int .i64 M.wrong) ∧ Ext w y ∧ Blk y (s0 + 1) 137 24 .u64 (fun _ => 0)) ∧ Blk y mb 180 2400 .u64 mskF ∧ Blk y eb 182 100 .i64 (endF M b)))
  clear be hE2 heb hE1 HEN HCE2 HBM k0 k1 k2
  go_upto_region 4 with (fail)
  rw [zero24]
  obtain ⟨b9, hb9⟩ : ∃ b9, b9 = W3.heap.size := ⟨_, rfl⟩
  have n9 := Blk.new' hb9.symm 137 24 .u64 (fun _ => 0)
  have hE5 : Ext W3 (W3.alloc (.cells (rowV 24 .u64 (fun _ => 0)) 137)) := (Ext.refl W3).alloc _
  rw [← hb9]
  have hlt9 : W3.heap.size ≤ b9 := by omega
  generalize World.alloc _ _ = W5 at n9 hE5 ⊢
  have HCE5 := Lib.hid (fun y (h : Ups b9 W5 y) => HCE3.out y (hE5.ups h hlt9))
  have HN9 := Lib.hid (n9.congr (g := setF 0) (fun j _ => by unfold setF; rw [wd_zero]; rfl))
  clear n9 hE5 hb9 hlt9 HCE3
  go_wp2
  go_loopw [15] (fun x wr => ∃ k : Nat, k ≤ 100 ∧ x = .int .i64 k ∧ Ups b9 W5 wr ∧ Blk wr b9 137 24 .u64 (setF (betTo M a b k))) (fun x _ => 100 - (intOf x).toNat)
  case atStart => exact ⟨0, by omega, rfl, Ups.refl _ _, HN9.out⟩
  case round =>
    obtain ⟨k, hk, rfl, hU, hB⟩ := hrel
    have HUR := Lib.hid hU
    have HBR := Lib.hid hB
    obtain ⟨⟨k0, k1, k2, k3, k4⟩, k5, k6⟩ := HCE5.out wr hU
    have HEW := Lib.hid k3
    have HZ1 := Lib.hid k4
    have HSM := Lib.hid (fun y (h : Ext wr y) => sums04 M HVM.out a b mb eb 180 182 (k : Int) p qq c d y (HP.out.ext (k3.trans h)) (HQ.out.ext (k3.trans h)) (k5.ext h) (k6.ext h) hab hb)
    have HK := Lib.hid (fun y (h : Ext wr.drew y) => (⟨h.cell k0, h.cell k1, h.cell k2⟩ : y.cell? ⟨s0, 0, none⟩ = some (.slice p M.weeks.length c) ∧ y.cell? ⟨s0, 1, none⟩ = some (.slice qq M.reads.length d) ∧ y.cell? ⟨s0, 2, none⟩ = some (.int .i64 M.wrong)))
    clear hU hB HN9 k3 k4 k5 k6
    by_cases hlt : k < 100
    · have hlt' : (k : Int) < 100 := by omega
      have HS1 := Lib.hid (fun y (h : Ext wr y) => HSM.out y h (by omega) (by omega))
      have hsu := betTo_succ M a b k
      obtain ⟨T, hT⟩ : ∃ T, T = betTo M a b k := ⟨_, rfl⟩
      obtain ⟨X, hX⟩ : ∃ X, X = sumsF M a b k := ⟨_, rfl⟩
      rw [← hT] at HBR hsu
      rw [← hX] at HS1 hsu
      have HSU := Lib.hid hsu
      unfold setV at HS1
      clear HSM hsu hT hX
      go_upto_region 7 with (fail)
      refine wp_region_facts 7 [[], [], [], [], [], [1, 2, 3, 4], [0, 5]] [6] Ext (FL [Is (.agg (rowV 24 .u64 (setF T))), Is (.agg #[.slice p M.weeks.length c, .slice qq M.reads.length d, .int .i64 M.wrong]), Is (.int .i64 (a : Int)), Is (.int .i64 (b : Int)), Is (.int .i64 (k : Int)), Is (.agg (rowV 24 .u64 (setF X))), Is (.agg (rowV 24 .u64 (setF (T ||| X))))]) (by kernel_rfl) (by kernel_rfl) Ext.refl (fun _ _ _ => Ext.trans) (fun _ _ => Ext.size) (FL.mono ⟨Is.mono, Is.mono, Is.mono, Is.mono, Is.mono, Is.mono, Is.mono, trivial⟩) ⟨?_, ?_, ?_, ?_, ?_, ?_, ?_, trivial⟩ ?_
      · refine opF_step ?_
        intro ys l0 h0 w' hr hf K hK
        clear hf
        simp only [fill, Act.put, dstO, List.take_succ_cons, List.take_zero, List.setIfInBounds_toArray, List.set_cons_zero, List.set_cons_succ, List.getElem?_cons_zero, Nat.zero_add, Nat.reduceAdd] at hK ⊢
        refine OpB.mkG rfl (wp_loadB 137 _ _ Tryz.underlying137 rfl iSet rfl rfl (HBR.out.drew.ext hr) (by omega) ?_)
        rw [row0]
        exact hK.out _ _ rfl (Ext.refl _)
      · refine opF_step ?_
        intro ys l0 h0 w' hr hf K hK
        clear hf
        obtain ⟨j0, j1, j2⟩ := HK.out w' hr
        simp only [fill, Act.put, dstO, List.take_succ_cons, List.take_zero, List.setIfInBounds_toArray, List.set_cons_zero, List.set_cons_succ, List.getElem?_cons_zero, List.getElem?_cons_succ, Nat.zero_add, Nat.reduceAdd] at hK ⊢
        refine OpB.mk' ?_
        go_simp
        exact hK.out _ _ rfl (Ext.refl _)
      · refine opF_step ?_
        intro ys l0 h0 w' hr hf K hK
        clear hf
        simp only [fill, Act.put, dstO, List.take_succ_cons, List.take_zero, List.setIfInBounds_toArray, List.set_cons_zero, List.set_cons_succ, List.getElem?_cons_zero, List.getElem?_cons_succ, Nat.zero_add, Nat.reduceAdd] at hK ⊢
        refine OpB.mk' ?_
        go_simp
        exact hK.out _ _ rfl (Ext.refl _)
      · refine opF_step ?_
        intro ys l0 h0 w' hr hf K hK
        clear hf
        simp only [fill, Act.put, dstO, List.take_succ_cons, List.take_zero, List.setIfInBounds_toArray, List.set_cons_zero, List.set_cons_succ, List.getElem?_cons_zero, List.getElem?_cons_succ, Nat.zero_add, Nat.reduceAdd] at hK ⊢
        refine OpB.mk' ?_
        go_simp
        exact hK.out _ _ rfl (Ext.refl _)
      · refine opF_step ?_
        intro ys l0 h0 w' hr hf K hK
        clear hf
        simp only [fill, Act.put, dstO, List.take_succ_cons, List.take_zero, List.setIfInBounds_toArray, List.set_cons_zero, List.set_cons_succ, List.getElem?_cons_zero, List.getElem?_cons_succ, Nat.zero_add, Nat.reduceAdd] at hK ⊢
        refine OpB.mk' ?_
        go_simp
        exact hK.out _ _ rfl (Ext.refl _)
      · refine opF_step ?_
        intro ys l0 h0 w' hr hf K hK
        obtain ⟨f0, f1, f2, f3, -⟩ := hf
        have e0 : ys 1 = _ := f0
        have e1 : ys 2 = _ := f1
        have e2 : ys 3 = _ := f2
        have e3 : ys 4 = _ := f3
        simp only [fill, Act.put, dstO, List.take_succ_cons, List.take_zero, List.setIfInBounds_toArray, List.set_cons_zero, List.set_cons_succ, List.getElem?_cons_zero, List.getElem?_cons_succ, Nat.zero_add, Nat.reduceAdd] at hK ⊢
        simp only [e0, e1, e2, e3] at hK ⊢
        clear e0 e1 e2 e3 f0 f1 f2 f3
        refine OpB.mk' ?_
        go_simp
        refine (HS1.out w' ((Ext.refl wr).drew.trans hr)).mono ?_
        rintro e w2 ⟨rfl, hE2⟩
        exact hK.out _ _ rfl hE2
      · refine opF_step ?_
        intro ys l0 h0 w' hr hf K hK
        obtain ⟨f0, f1, -⟩ := hf
        have e0 : ys 0 = _ := f0
        have e1 : ys 5 = _ := f1
        simp only [fill, Act.put, dstO, List.take_succ_cons, List.take_zero, List.setIfInBounds_toArray, List.set_cons_zero, List.set_cons_succ, List.getElem?_cons_zero, List.getElem?_cons_succ, Nat.zero_add, Nat.reduceAdd] at hK ⊢
        simp only [e0, e1] at hK ⊢
        clear e0 e1 f0 f1
        refine OpB.mk' ?_
        go_simp
        refine (orS04 T X w').mono ?_
        rintro e w2 ⟨rfl, hE2⟩
        exact hK.out _ _ rfl hE2
      intro ys l0 h0 w2 hr hf hsp
      obtain ⟨f6, -⟩ := hf
      have e6 : ys 6 = _ := f6
      simp only [fill, Act.put, List.take_succ_cons, List.take_zero, List.setIfInBounds_toArray, List.set_cons_zero, List.set_cons_succ, Nat.zero_add, Nat.reduceAdd, List.drop_succ_cons, List.drop_zero]
      rw [e6]
      clear e6 f6 hsp
      have nb := HBR.out.drew.ext hr
      refine wpList_storeB 137 _ _ iSet rfl rfl rfl rfl nb (by omega) ?_
      refine wpList_nil ?_
      have n2 := (nb.sets 0 (setF (T ||| X)) 24).congr (g := setF (betTo M a b (k + 1))) (fun i hi => by rw [if_pos (by omega), Nat.sub_zero, HSU.out])
      have u2 := (HUR.out.drew.trans (Ups.ext hr)).setCells 0 (rowV 24 .u64 (setF (T ||| X))).toList
      generalize World.setCells w2 _ _ _ = W9 at n2 u2 ⊢
      have N2 := Lib.hid n2
      have U2 := Lib.hid u2
      clear n2 u2 nb hr HBR HUR HSU HK HEW HZ1 HS1 k0 k1 k2
      go_wp2
      go_roundw
      case rel => exact ⟨k + 1, by omega, by simp, U2.out, N2.out⟩
      case measure => simp [intOf]; omega
    · obtain rfl : k = 100 := by omega
      clear k0 k1 k2
      go_upto_region 9 with (fail)
      refine wp_region_lit (wpList_loadB 137 _ _ Tryz.underlying137 rfl iSet rfl rfl rfl HBR.out (Nat.le_refl _) ?_)
      rw [row0]
      refine wpList_storeB 137 _ _ iSet rfl rfl rfl rfl HZ1.out (Nat.le_refl _) ?_
      refine wpList_nil ?_
      have HF := Lib.hid (HZ1.out.sets 0 (setF (betTo M a b 100)) 24)
      have HFE : Ext w _ := Ext.setCells (b := s0 + 1) HEW.out (by have := HS0.out; omega) 0 (rowV 24 .u64 (setF (betTo M a b 100))).toList
      generalize World.setCells wr _ _ _ = W9 at HF HFE ⊢
      have HG := Lib.hid (HF.out.congr (g := setF (betTo M a b 100)) (fun j hj => by rw [if_pos (by omega), Nat.sub_zero]))
      have HFE := Lib.hid HFE
      go_wp2
      exact ret_row 137 _ rfl rfl HG.out Tryz.underlying137 rfl iSet rfl (RetE.fin HFE.out rfl)
end Go.Proofs.YtppncdbhebgcaaaGreatDoor
namespace Go.Proofs.YtppncdbhebgcaaaGreatDoor
open Go.RowKit

theorem askV_f (M : Mt) : ¬askV M false = 0 := by
  unfold askV
  split
  · simp
  · simp
theorem askV_0 {M : Mt} {is : Bool} (h : askV M is = 0) : ValidM M ∧ is = true := by
  unfold askV at h
  by_cases hM : ValidM M
  · rw [if_pos hM] at h
    by_cases hi : is = true
    · exact ⟨hM, hi⟩
    · rw [if_neg hi] at h
      cases h
  · rw [if_neg hM] at h
    cases h
def areB (f t n : Int) : Bool := decide (0 ≤ f) && (decide (f ≤ t) && decide (t ≤ n))

set_option maxRecDepth 20000 in
set_option maxHeartbeats 16000000 in
theorem Sums04 (M : Mt) (f t : Int) (v : Value) (w : World) (hv : MtV w v M) (h1 : M.weeks.length ≤ 1000) (h2 : M.reads.length ≤ 1000) (hT : TabW w) :
    Calls Tryz.prog 61 #[v, .int .i64 f, .int .i64 t] w (RetL (okL (askV M (areB f t M.weeks.length)) (bitsI (betTo M f.toNat t.toNat 100))) (askV M (areB f t M.weeks.length)) w) := by
  have HV := Lib.hid hv
  have HT := Lib.hid hT
  obtain ⟨p, c, qq, d, rfl, hp, hq⟩ := hv
  have HP := Lib.hid hp
  have HQ := Lib.hid hq
  clear hp hq hT
  go_enter Tryz.func61, Tryz.ntmps61
  go_upto_region 1 with (fail)
  obtain ⟨s0, hs0'⟩ : ∃ s0, s0 = w.heap.size := ⟨_, rfl⟩
  generalize hW : World.alloc _ _ = W
  have m0 : W.heap[s0]? = some (.cells #[.slice p M.weeks.length c, .slice qq M.reads.length d, .int .i64 M.wrong] 55) := by rw [hs0', ← hW]; exact heap_new _ _
  have hE : Ext w W := by rw [← hW]; exact (by repeat (first | exact Ext.refl _ | assumption | refine Ext.drewN ?_ _ | refine Ext.drew ?_ | refine Ext.alloc ?_ _))
  rw [← hs0']
  have m00 := ExtW.cell (v := .slice p M.weeks.length c) (cell_of_heap m0 0)
  have m01 := ExtW.cell (v := .slice qq M.reads.length d) (cell_of_heap m0 1)
  have m02 := ExtW.cell (v := .int .i64 M.wrong) (cell_of_heap m0 2)
  have HE := Lib.hid hE
  have HAK := Lib.hid (fun is (x : ExtW W) => ExtW.call (ask04 M is _ x.w (HV.out.ext (hE.trans x.h)) h1 h2))
  have HBT := Lib.hid (fun hM ha hb (x : ExtW W) => ExtW.call (between04 M hM f.toNat t.toNat p qq c d x.w (HP.out.ext (hE.trans x.h)) (HQ.out.ext (hE.trans x.h)) ha hb))
  obtain ⟨x0, hx0⟩ := ExtW.of (Ext.refl W)
  clear hW m0 hE hs0'
  conv => arg 5; rw [hx0]
  clear hx0
  by_cases hA : 0 ≤ f
  case neg =>
    have HIS := Lib.hid (show areB f t M.weeks.length = false from by unfold areB; simp [hA])
    have HAF := Lib.hid (HAK.out false)
    obtain ⟨z, hz⟩ : ∃ z, askV M false = z := ⟨_, rfl⟩
    have hz0 : ¬z = 0 := by rw [← hz]; exact askV_f M
    rw [hz] at HAF
    have HOK := Lib.hid (show okL (askV M (areB f t M.weeks.length)) (bitsI (betTo M f.toNat t.toNat 100)) = [] ∧ askV M (areB f t M.weeks.length) = z from by rw [HIS.out, hz]; exact ⟨okL_ne hz0 _, rfl⟩)
    have g1 : (z == 0) = false := by simpa using hz0
    have g2 : decide (z = 0) = false := by simpa using hz0
    clear hz hz0 HBT
    go_wp2_with (go_at_call 85; refine (HAF.out _).mono ?_; rintro e w1 ⟨rfl, x1, rfl⟩)
    go_ret2
    exact ⟨.slice none 0 0, by rw [HOK.out.2]; rfl, by rw [HOK.out.1]; exact World.ownsRow_nil _ _ _ _, HE.out.trans x1.h⟩
  by_cases hB : f ≤ t
  case neg =>
    have HIS := Lib.hid (show areB f t M.weeks.length = false from by unfold areB; simp [hB])
    have HAF := Lib.hid (HAK.out false)
    obtain ⟨z, hz⟩ : ∃ z, askV M false = z := ⟨_, rfl⟩
    have hz0 : ¬z = 0 := by rw [← hz]; exact askV_f M
    rw [hz] at HAF
    have HOK := Lib.hid (show okL (askV M (areB f t M.weeks.length)) (bitsI (betTo M f.toNat t.toNat 100)) = [] ∧ askV M (areB f t M.weeks.length) = z from by rw [HIS.out, hz]; exact ⟨okL_ne hz0 _, rfl⟩)
    have g1 : (z == 0) = false := by simpa using hz0
    have g2 : decide (z = 0) = false := by simpa using hz0
    clear hz hz0 HBT
    go_wp2_with (go_at_call 85; refine (HAF.out _).mono ?_; rintro e w1 ⟨rfl, x1, rfl⟩)
    go_ret2
    exact ⟨.slice none 0 0, by rw [HOK.out.2]; rfl, by rw [HOK.out.1]; exact World.ownsRow_nil _ _ _ _, HE.out.trans x1.h⟩
  by_cases hC : t ≤ (M.weeks.length : Int)
  case neg =>
    have HIS := Lib.hid (show areB f t M.weeks.length = false from by unfold areB; simp [hC])
    have HAF := Lib.hid (HAK.out false)
    obtain ⟨z, hz⟩ : ∃ z, askV M false = z := ⟨_, rfl⟩
    have hz0 : ¬z = 0 := by rw [← hz]; exact askV_f M
    rw [hz] at HAF
    have HOK := Lib.hid (show okL (askV M (areB f t M.weeks.length)) (bitsI (betTo M f.toNat t.toNat 100)) = [] ∧ askV M (areB f t M.weeks.length) = z from by rw [HIS.out, hz]; exact ⟨okL_ne hz0 _, rfl⟩)
    have g1 : (z == 0) = false := by simpa using hz0
    have g2 : decide (z = 0) = false := by simpa using hz0
    clear hz hz0 HBT
    go_wp2_with (go_at_call 85; refine (HAF.out _).mono ?_; rintro e w1 ⟨rfl, x1, rfl⟩)
    go_ret2
    exact ⟨.slice none 0 0, by rw [HOK.out.2]; rfl, by rw [HOK.out.1]; exact World.ownsRow_nil _ _ _ _, HE.out.trans x1.h⟩
  have HIS := Lib.hid (show areB f t M.weeks.length = true from by unfold areB; simp [hA, hB, hC])
  have HAT := Lib.hid (HAK.out true)
  obtain ⟨z, hz⟩ : ∃ z, askV M true = z := ⟨_, rfl⟩
  rw [hz] at HAT
  have HZ := Lib.hid hz
  by_cases hz0 : z = 0
  case neg =>
    have HOK := Lib.hid (show okL (askV M (areB f t M.weeks.length)) (bitsI (betTo M f.toNat t.toNat 100)) = [] ∧ askV M (areB f t M.weeks.length) = z from by rw [HIS.out, hz]; exact ⟨okL_ne hz0 _, rfl⟩)
    have g1 : (z == 0) = false := by simpa using hz0
    have g2 : decide (z = 0) = false := by simpa using hz0
    clear hz hz0
    go_wp2_with (go_at_call 85; refine (HAT.out _).mono ?_; rintro e w1 ⟨rfl, x1, rfl⟩)
    go_ret2
    exact ⟨.slice none 0 0, by rw [HOK.out.2]; rfl, by rw [HOK.out.1]; exact World.ownsRow_nil _ _ _ _, HE.out.trans x1.h⟩
  subst hz0
  obtain ⟨hM, -⟩ := askV_0 hz
  have HOK := Lib.hid (show okL (askV M (areB f t M.weeks.length)) (bitsI (betTo M f.toNat t.toNat 100)) = bitsI (betTo M f.toNat t.toNat 100) ∧ askV M (areB f t M.weeks.length) = 0 from by rw [HIS.out, hz]; exact ⟨okL_0 rfl _, rfl⟩)
  have hbt := HBT.out hM (by omega) (by omega)
  rw [Int.toNat_of_nonneg hA, Int.toNat_of_nonneg (show 0 ≤ t by omega)] at hbt
  have HB := Lib.hid hbt
  have HAL := Lib.hid (fun x : ExtW W => all04 (betTo M f.toNat t.toNat 100) x.w (HT.out.ext (HE.out.trans x.h)))
  clear hz hM hbt HBT
  go_wp2_with (first
    | (go_at_call 85; refine (HAT.out _).mono ?_; rintro e w1 ⟨rfl, x1, rfl⟩)
    | (go_at_call 86; refine (HB.out _).mono ?_; rintro e w1 ⟨rfl, x2, rfl⟩)
    | (go_at_call 87; refine (HAL.out _).mono ?_; rintro e w3 ⟨u, rfl, hO, hE3⟩))
  go_ret2
  exact ⟨u, by rw [HOK.out.2]; rfl, by rw [HOK.out.1]; exact ownsRow_base hO (HE.out.trans x2.h).size, (HE.out.trans x2.h).trans hE3⟩
end Go.Proofs.YtppncdbhebgcaaaGreatDoor
namespace Go.Proofs.YtppncdbhebgcaaaGreatDoor
open Go.RowKit

/-- eight sets, as a list and as a function -/
def Same8 (P : List Nat) (q : Nat → Nat) : Prop := P.length = 8 ∧ ∀ c, c < 8 → P.getD c 0 = q c
theorem Same8.read {P : List Nat} {q : Nat → Nat} (h : Same8 P q) (right : Nat) : Same8 (readL P right) (readQ q right) := by
  refine ⟨by rw [readL_length, h.1], fun c hc => ?_⟩
  rw [readL_get (by rw [h.1]; exact hc), h.2 c hc]
  unfold readQ
  by_cases e : c = 0
  · rw [if_pos e, if_pos e]
  · rw [if_neg e, if_neg e, h.2 _ (by omega)]
theorem Same8.fold {f : Int × Int → Nat} : ∀ (rs : List (Int × Int)) {P : List Nat} {q : Nat → Nat}, Same8 P q → Same8 (rs.foldl (fun P r => readL P (f r)) P) (rs.foldl (fun q r => readQ q (f r)) q)
  | [], _, _, h => h
  | _ :: rs, _, _, h => Same8.fold rs (h.read _)
theorem Same8.map {P : List Nat} {q : Nat → Nat} (h : Same8 P q) (f : Nat → Nat) : Same8 (P.map f) (fun c => f (q c)) :=
  ⟨by rw [List.length_map, h.1], fun c hc => by rw [getD_map (by rw [h.1]; exact hc), h.2 c hc]⟩
theorem same8_start : Same8 [1, 0, 0, 0, 0, 0, 0, 0] startQ := by
  refine ⟨rfl, fun c hc => ?_⟩
  match c, hc with
  | 0, _ => rfl
  | 1, _ => rfl
  | 2, _ => rfl
  | 3, _ => rfl
  | 4, _ => rfl
  | 5, _ => rfl
  | 6, _ => rfl
  | 7, _ => rfl
theorem rdTo_all (M : Mt) (a : Nat) (fn : Int → Int) (q : Nat → Nat) : rdTo M a fn q M.reads.length = (atL M a).foldl (fun q r => readQ q (maskN (fn r.2).toNat)) q := by
  unfold rdTo atL
  rw [List.take_length]
theorem wide_eq {M : Mt} (hM : ValidM M) {i : Nat} (hi : i < M.weeks.length) : highN M i - lowN M i + 1 = wideN M i := by
  have := week_span hM hi
  unfold highN lowN wideN
  omega
theorem ahead_same {M : Mt} (hM : ValidM M) (a : Nat) (sh : Int) : ∀ k, a + k ≤ M.weeks.length → Same8 (aheadL M a sh k) (aheadF M a sh k) := by
  intro k
  induction k with
  | zero => intro _; exact same8_start
  | succ k ih =>
    intro hk
    unfold aheadL aheadF
    rw [rdTo_all, wide_eq hM (by omega)]
    exact ((ih (by omega)).map (fun S => spreadW S (lowN M (a + k)) (wideN M (a + k)))).fold (f := fun r => maskN (modI (r.2 - sh))) _
theorem before_same {M : Mt} (hM : ValidM M) {b : Nat} (hb : b ≤ M.weeks.length) (sh : Int) : ∀ k, k ≤ b → Same8 (beforeL M b sh k) (beforeF M b sh k) := by
  intro k
  induction k with
  | zero => intro _; exact same8_start
  | succ k ih =>
    intro hk
    unfold beforeL beforeF
    rw [rdTo_all, wide_eq hM (by omega)]
    exact ((ih (by omega)).map (fun S => spreadW S (lowN M (b - k - 1)) (wideN M (b - k - 1)))).fold (f := fun r => maskN (modI (sh - r.2))) _

theorem cnt_zero {S : Nat} (h : ∀ n, S.testBit n = true → n < 1536) : cnt 1536 S = 0 ↔ S = 0 := by
  unfold cnt
  rw [List.countP_eq_zero]
  constructor
  · intro h2
    rw [zero_iff]
    intro k
    cases hk : S.testBit k
    · rfl
    · exact absurd hk (h2 k (List.mem_range.2 (h k hk)))
  · rintro rfl n _
    rw [Nat.zero_testBit]; simp
theorem fewL_at : ∀ (P : List Nat) (k : Nat), k < P.length → P.getD k 0 ≠ 0 → (∀ c, c < k → P.getD c 0 = 0) → fewL P = k := by
  intro P
  induction P with
  | nil => intro k h; cases h
  | cons S P ih =>
    intro k hk h h2
    unfold fewL
    cases k with
    | zero =>
      have h0 : ¬S = 0 := h
      rw [if_neg h0]; rfl
    | succ k =>
      have h0 : S = 0 := h2 0 (by omega)
      have h3 := ih k (by simpa using hk) h (fun c hc => h2 (c + 1) (by omega))
      rw [if_pos h0, h3, if_neg (by omega)]
      simp
theorem fewL_none : ∀ (P : List Nat), (∀ c, c < P.length → P.getD c 0 = 0) → fewL P = -1 := by
  intro P
  induction P with
  | nil => intro _; rfl
  | cons S P ih =>
    intro h
    have h0 : S = 0 := h 0 (by simp)
    have h3 := ih (fun c hc => h (c + 1) (by simpa using hc))
    unfold fewL
    rw [if_pos h0, h3, if_pos (by omega)]
theorem few_same {P : List Nat} {q : Nat → Nat} (h : Same8 P q) (hb : ∀ c, c < 8 → ∀ n, (q c).testBit n = true → n < 1536) : fewQ q = fewL P := by
  by_cases hall : ∀ c, c < 8 → q c = 0
  · rw [fewQ_none (fun c hc => (cnt_zero (hb c hc)).2 (hall c hc)), fewL_none P (fun c hc => by rw [h.1] at hc; rw [h.2 c hc, hall c hc])]
  · have hex : ∃ c, c < 8 ∧ q c ≠ 0 := Classical.byContradiction fun h' => hall fun c hc => Classical.byContradiction fun h2 => h' ⟨c, hc, h2⟩
    obtain ⟨k, hk, hmin⟩ : ∃ k, (k < 8 ∧ q k ≠ 0) ∧ ∀ c, c < k → ¬(c < 8 ∧ q c ≠ 0) := by
      have key : ∀ n, (∃ c, c ≤ n ∧ c < 8 ∧ q c ≠ 0) → ∃ k, (k < 8 ∧ q k ≠ 0) ∧ ∀ c, c < k → ¬(c < 8 ∧ q c ≠ 0) := by
        intro n
        induction n with
        | zero => rintro ⟨c, h0, h1⟩; exact ⟨c, h1, fun d hd => by omega⟩
        | succ n ih =>
          rintro ⟨c, h0, h1⟩
          by_cases hx : ∃ c, c ≤ n ∧ c < 8 ∧ q c ≠ 0
          · exact ih hx
          · exact ⟨c, h1, fun d hd h2 => hx ⟨d, by omega, h2⟩⟩
      obtain ⟨c, hc⟩ := hex
      exact key c ⟨c, Nat.le_refl _, hc⟩
    have hz : ∀ c, c < k → q c = 0 := fun c hc => Classical.byContradiction fun h2 => hmin c hc ⟨by omega, h2⟩
    rw [fewQ_at hk.1 (Nat.pos_of_ne_zero fun e => hk.2 ((cnt_zero (hb k hk.1)).1 e)) (fun c hc => by rw [hz c hc]; exact (cnt_zero (fun n hn => by rw [Nat.zero_testBit] at hn; cases hn)).2 rfl)]
    exact (fewL_at P k (by rw [h.1]; exact hk.1) (by rw [h.2 k hk.1]; exact hk.2) (fun c hc => by rw [h.2 c (by omega), hz c hc])).symm

theorem ahead_bits {M : Mt} (hM : ValidM M) {sh : Int} (h0 : 0 ≤ sh) (h1 : sh < 100) {a b : Nat} (hab : a ≤ b) (hb : b ≤ M.weeks.length) : ∀ c, c < 8 → ∀ n, (aheadF M a sh (b - a) c).testBit n = true → n < 1536 := by
  intro c hc n hn
  rw [← (ahead_same hM a sh (b - a) (by omega)).2 c hc] at hn
  have hq := ((ahead_stands hM h0 h1 (a := a) (b - a) (by omega)).2 c hc n).1 hn
  have := ahead_bound hM hq (by omega) (by omega)
  have := hM.nw
  omega
theorem before_bits {M : Mt} (hM : ValidM M) {sh : Int} (h0 : 0 ≤ sh) (h1 : sh < 100) {b : Nat} (hb : b ≤ M.weeks.length) : ∀ c, c < 8 → ∀ n, (beforeF M b sh b c).testBit n = true → n < 1536 := by
  intro c hc n hn
  rw [← (before_same hM hb sh b (Nat.le_refl _)).2 c hc] at hn
  have hq := ((before_stands hM h0 h1 hb b (Nat.le_refl _)).2 c hc n).1 hn
  have := before_bound hM hq (by omega) (by omega)
  have := hM.nw
  omega
theorem fewA_eq {M : Mt} (hM : ValidM M) {sh : Int} (h0 : 0 ≤ sh) (h1 : sh < 100) {a b : Nat} (hab : a ≤ b) (hb : b ≤ M.weeks.length) : fewQ (aheadF M a sh (b - a)) = fewA M a b sh :=
  few_same (ahead_same hM a sh (b - a) (by omega)) (ahead_bits hM h0 h1 hab hb)
theorem fewB_eq {M : Mt} (hM : ValidM M) {sh : Int} (h0 : 0 ≤ sh) (h1 : sh < 100) {b : Nat} (hb : b ≤ M.weeks.length) : fewQ (beforeF M b sh b) = fewB M b sh :=
  few_same (before_same hM hb sh b (Nat.le_refl _)) (before_bits hM h0 h1 hb)
theorem wrongs_eq {M : Mt} (hM : ValidM M) {sh : Int} (h0 : 0 ≤ sh) (h1 : sh < 100) {a : Nat} (ha : a ≤ M.weeks.length) : wrongsF M a sh = wrongsN M a sh := by
  unfold wrongsF wrongsN
  rw [fewA_eq hM h0 h1 ha (Nat.le_refl _), fewB_eq hM h0 h1 ha]
theorem foldl_congr {α β : Type} {f g : β → α → β} : ∀ (l : List α) (b : β), (∀ b, ∀ x ∈ l, f b x = g b x) → l.foldl f b = l.foldl g b
  | [], _, _ => rfl
  | x :: l, b, h => by
    rw [List.foldl_cons, List.foldl_cons, h b x List.mem_cons_self]
    exact foldl_congr l _ (fun b y hy => h b y (List.mem_cons_of_mem _ hy))
theorem least_eq {M : Mt} (hM : ValidM M) : leastTo M 100 = leastN M := by
  unfold leastTo leastN
  exact foldl_congr _ _ (fun b s hs => by have := List.mem_range.1 hs; rw [wrongs_eq hM (by omega) (by omega) (Nat.zero_le _)])
theorem can_eq {M : Mt} (hM : ValidM M) {r : Int × Int} (hr : r ∈ M.reads) (right : Bool) : canF M r right = canN M r right := by
  have h := hM.read r hr
  unfold canF canN
  apply Bool.eq_iff_iff.2
  rw [List.any_eq_true, List.any_eq_true]
  constructor
  · rintro ⟨s, hs, h2⟩
    have := List.mem_range.1 hs
    unfold canT at h2
    rw [wrongs_eq hM (by omega) (by omega) (by omega)] at h2
    exact ⟨s, hs, h2⟩
  · rintro ⟨s, hs, h2⟩
    have := List.mem_range.1 hs
    refine ⟨s, hs, ?_⟩
    unfold canT
    rw [wrongs_eq hM (by omega) (by omega) (by omega)]
    exact h2
theorem sums_eq {M : Mt} (hM : ValidM M) {sh : Int} (h0 : 0 ≤ sh) (h1 : sh < 100) {a b : Nat} (hab : a ≤ b) (hb : b ≤ M.weeks.length) : sumsF M a b sh = sumsN M a b sh (fun e => fewA M b M.weeks.length e) := by
  unfold sumsF sumsN outTo inTo
  refine foldl_congr _ _ (fun out rest hr => foldl_congr _ _ (fun out c hc => ?_))
  have hc8 := List.mem_range.1 hc
  have hm : modI (sh + (rest : Int)) < 100 := by unfold modI; omega
  rw [fewB_eq hM h0 h1 (by omega)]
  unfold endF
  rw [fewA_eq hM (by omega) (by omega) hb (Nat.le_refl _), (ahead_same hM a sh (b - a) (by omega)).2 c hc8]
theorem bet_eq {M : Mt} (hM : ValidM M) {a b : Nat} (hab : a ≤ b) (hb : b ≤ M.weeks.length) : betTo M a b 100 = betweenN M a b := by
  unfold betTo betweenN
  exact foldl_congr _ _ (fun out s hs => by have := List.mem_range.1 hs; rw [sums_eq hM (by omega) (by omega) hab hb])

/-- What the program asks first: is there a truth? -/
theorem askV_t {M : Mt} (hM : ValidM M) : askV M true = if leastN M ≤ M.wrong then 0 else 3 := by
  unfold askV
  rw [if_pos hM, if_pos rfl, least_eq hM]
  by_cases h : leastN M ≤ M.wrong
  · rw [if_pos h, if_neg (by omega)]
  · rw [if_neg h, if_pos (by omega)]
theorem askV_iff {M : Mt} (hM : ValidM M) : askV M true = 0 ↔ ∃ D, Tru M D := by
  rw [askV_t hM, ← hasT_iff hM]
  by_cases h : leastN M ≤ M.wrong
  · rw [if_pos h]; simp [h]
  · rw [if_neg h]; simp [h]
end Go.Proofs.YtppncdbhebgcaaaGreatDoor
