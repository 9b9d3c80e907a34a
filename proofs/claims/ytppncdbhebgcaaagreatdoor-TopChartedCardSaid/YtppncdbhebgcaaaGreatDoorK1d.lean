
/- The walk of TopCharted. -/
import Derived.Test.YtppncdbhebgcaaaGreatDoorK1c
import Derived.Test.YtppncdbhebgcaaaGreatDoorK1f
import Derived.Test.YtppncdbhebgcaaaGreatDoorK1h
import Derived.Deep.Cut
namespace Go.Proofs.YtppncdbhebgcaaaGreatDoor
open Go.RowKit

theorem farC_len3 {C : Ch} (h : farC C = false) : C.meters.length ≤ 20 ∧ C.extra.length ≤ 40 ∧ (∀ M ∈ C.meters, farB M = false) ∧ waysF C ≤ 70 := by
  unfold farC at h
  split at h
  · cases h
  · split at h
    · cases h
    · next h1 h2 =>
      refine ⟨by omega, by omega, fun M hM => ?_, by rw [decide_eq_false_iff_not] at h; omega⟩
      cases hf : farB M with
      | false => rfl
      | true => exact absurd (List.any_eq_true.2 ⟨M, hM, hf⟩) h2
theorem farC_sm3 {C : Ch} (h : farC C = false) : ChSm C := ⟨(farC_len3 h).1, (farC_len3 h).2.1, fun M hM => far_len ((farC_len3 h).2.2.1 M hM)⟩

theorem map_snoc (x : Nat → Int) (k : Nat) : (List.range k).map x ++ [x k] = (List.range (k + 1)).map x := by
  rw [List.range_succ, List.map_append]
  rfl
theorem head_at {l : List Int} {m : Nat} (h : l.length = m + 1) : l.headD 0 = l[0]'(by omega) := by
  cases l with
  | nil => simp at h
  | cons a r => rfl
theorem last_at {l : List Int} {m : Nat} (h : l.length = m + 1) : l.getLastD 0 = l[m]'(by omega) := by
  rw [List.getLastD_eq_getLast?, List.getLast?_eq_getElem?]
  simp [h]
theorem errC_two3 {C : Ch} (h : ValidC C) : errC C true = 0 ∨ errC C true = 3 := by
  cases hn : someN C C.meters.length
  · exact Or.inl (errC_ok h hn)
  · exact Or.inr (errC_none h hn)
theorem chkC_two {C : Ch} : chkC C = 0 ∧ ValidC C ∨ chkC C = 60 := by
  unfold chkC
  split
  · rename_i h; exact Or.inl ⟨rfl, (okC_iff C).1 h⟩
  · exact Or.inr rfl
set_option maxRecDepth 20000 in
set_option maxHeartbeats 16000000 in
theorem TopCharted06 (v : Value) (C : Ch) (f : Int) (w : World) (hv : ChV w v C) (hT : TabW w) :
    Calls Tryz.prog 3 #[v, .int .i64 f] w (RetE (.bool true) w) := by
  have HT := Lib.hid hT
  have HTV := Lib.hid (fun y (h : Ext w y) => hv.ext h)
  obtain ⟨p, c, q, d, rfl, hp, hq⟩ := hv
  obtain ⟨n, hn⟩ : ∃ n, n = C.meters.length := ⟨_, rfl⟩
  have HN := Lib.hid hn
  rw [← hn] at HTV ⊢
  clear hT hp hq hn
  go_enter Tryz.func3, Tryz.ntmps3
  go_upto_region 1 with (fail)
  obtain ⟨s0, hs0⟩ : ∃ s0, s0 = w.heap.size := ⟨_, rfl⟩
  obtain ⟨W, hW⟩ : ∃ W, W = w.alloc (.cells #[.slice p n c, .slice q C.extra.length d, .int .i64 C.frm, .int .i64 C.tto] 25) := ⟨_, rfl⟩
  have m0 : W.heap[s0]? = some (.cells #[.slice p n c, .slice q C.extra.length d, .int .i64 C.frm, .int .i64 C.tto] 25) := by rw [hs0, hW]; exact heap_new _ _
  have hE : Ext w W := by rw [hW]; exact Ext.alloc (Ext.refl _) _
  rw [← hs0, ← hW]
  have a0 := ExtW.cell (v := .slice p n c) (cell_of_heap m0 0)
  have a1 := ExtW.cell (v := .slice q C.extra.length d) (cell_of_heap m0 1)
  have a2 := ExtW.cell (v := .int .i64 C.frm) (cell_of_heap m0 2)
  have a3 := ExtW.cell (v := .int .i64 C.tto) (cell_of_heap m0 3)
  have HM0 := Lib.hid m0
  have HE := Lib.hid hE
  have HVW := Lib.hid (fun y (h : Ext W y) => HTV.out y (hE.trans h))
  have HTW := Lib.hid (HT.out.ext hE)
  have HCD := Lib.hid (fun x : ExtW W => ExtW.callX (x := x) (swapped07 x.w))
  obtain ⟨fr, hfr⟩ : ∃ fr, fr = farC C := ⟨_, rfl⟩
  have HFA := Lib.hid (fun x : ExtW W => ExtW.callX (v := .bool fr) (x := x) (by
    have h := Far06 C _ x.w (HVW.out _ x.h)
    rw [← hfr] at h
    exact h))
  obtain ⟨y0, hy0⟩ := ExtW.of (Ext.refl W)
  clear hW m0 hE hs0
  conv => arg 5; rw [hy0]
  clear hy0
  cases fr
  case true =>
    clear hfr
    go_wp2_with (first | (go_at_call 7; refine (HCD.out _).mono ?_; rintro e w2 ⟨rfl, xc, rfl, -⟩) | (go_at_call 5; refine (HFA.out _).mono ?_; rintro e w2 ⟨rfl, xf, rfl, -⟩) | (go_at_call 6; refine (HCK.out _).mono ?_; rintro e w2 ⟨rfl, xk, rfl, -⟩))
    go_ret
    exact RetE.fin (HE.out.trans xc.h) rfl
  have HSM := Lib.hid (farC_sm3 hfr.symm)
  clear hfr
  obtain ⟨ck, hck⟩ : ∃ ck, ck = chkC C := ⟨_, rfl⟩
  have HCK := Lib.hid (fun x : ExtW W => ExtW.callX (v := .int .i64 ck) (x := x) (by
    have h := rCheck06 C _ x.w (HVW.out _ x.h) HSM.out
    rw [← hck] at h
    exact h))
  have hk2 : ck = 0 ∧ ValidC C ∨ ck = 60 := by rw [hck]; exact chkC_two
  clear hck
  rcases hk2 with ⟨rfl, hok⟩ | rfl
  case inr =>
    go_wp2_with (first | (go_at_call 7; refine (HCD.out _).mono ?_; rintro e w2 ⟨rfl, xc, rfl, -⟩) | (go_at_call 5; refine (HFA.out _).mono ?_; rintro e w2 ⟨rfl, xf, rfl, -⟩) | (go_at_call 6; refine (HCK.out _).mono ?_; rintro e w2 ⟨rfl, xk, rfl, -⟩))
    go_ret
    exact RetE.fin (HE.out.trans xc.h) rfl
  have hn6 : n ≤ 6 := by have := hok.nm; have := HN.out; omega
  have HOK := Lib.hid hok
  clear hok
  by_cases hf1 : f < 0
  case pos =>
    go_wp2_with (first | (go_at_call 7; refine (HCD.out _).mono ?_; rintro e w2 ⟨rfl, xc, rfl, -⟩) | (go_at_call 5; refine (HFA.out _).mono ?_; rintro e w2 ⟨rfl, xf, rfl, -⟩) | (go_at_call 6; refine (HCK.out _).mono ?_; rintro e w2 ⟨rfl, xk, rfl, -⟩))
    go_ret
    exact RetE.fin (HE.out.trans xc.h) rfl
  obtain ⟨s, rfl⟩ : ∃ s : Nat, f = s := ⟨f.toNat, by omega⟩
  obtain ⟨mn, hmn⟩ : ∃ mn : Nat, mn = if 3 < n then 3 else n := ⟨_, rfl⟩
  have hm1 : (if 3 < n then (3 : Int) else (n : Int)) = (mn : Int) := by rw [hmn]; split <;> rfl
  have hm3 : mn ≤ 3 ∧ mn ≤ n := by rw [hmn]; split <;> omega
  clear hmn
  go_cut [39] from 21 (fun t wc => t = .bool (decide ((mn : Int) < (s : Int))) ∧ ∃ x : ExtW W, wc = x.w)
  case first =>
    go_wp2_with (first | (go_at_call 5; refine (HFA.out _).mono ?_; rintro e w2 ⟨rfl, xf, rfl, -⟩) | (go_at_call 6; refine (HCK.out _).mono ?_; rintro e w2 ⟨rfl, xk, rfl, -⟩))
    all_goals
      go_meet
      refine ⟨?_, _, rfl⟩
      congr 1
      refine decide_eq_decide.2 ?_
      split at hm1 <;> omega
  case rest =>
  obtain ⟨rfl, xk, rfl⟩ := hcut
  by_cases hf2 : (mn : Int) < (s : Int)
  case pos =>
    rw [decide_eq_true hf2]
    go_wp2_with (go_at_call 7; refine (HCD.out _).mono ?_; rintro e w2 ⟨rfl, xc, rfl, -⟩)
    go_ret
    exact RetE.fin (HE.out.trans xc.h) rfl
  rw [decide_eq_false hf2]
  have hs3 : s ≤ 3 := by omega
  have hsn : s ≤ n := by omega
  clear hf2
  go_upto_region 5 with (fail)
  obtain ⟨g1, hg1⟩ : ∃ g1, g1 = xk.w.heap.size := ⟨_, rfl⟩
  obtain ⟨V1, hV1⟩ : ∃ V1, V1 = xk.w.alloc (.cells #[.slice none 0 0] 23) := ⟨_, rfl⟩
  obtain ⟨V2, hV2⟩ : ∃ V2, V2 = V1.alloc (.cells #[.slice (some ⟨g1, 0, none⟩) 1 1, .slice none 0 0, .slice none 0 0, .slice none 0 0, .int .i64 (s : Int)] 33) := ⟨_, rfl⟩
  obtain ⟨g2, hg2⟩ : ∃ g2, g2 = g1 + 1 + 1 := ⟨_, rfl⟩
  obtain ⟨V3, hV3⟩ : ∃ V3, V3 = V2.alloc (.cells #[.slice none 0 0] 23) := ⟨_, rfl⟩
  obtain ⟨V4, hV4⟩ : ∃ V4, V4 = V3.alloc (.cells #[.slice (some ⟨g2, 0, none⟩) 1 1, .slice none 0 0, .slice none 0 0, .slice none 0 0, .int .i64 (s : Int)] 33) := ⟨_, rfl⟩
  have z1 : V1.heap.size = g1 + 1 := by rw [hV1, size_alloc, hg1]
  have z2 : V2.heap.size = g2 := by rw [hV2, size_alloc, z1, hg2]
  have z3 : V3.heap.size = g2 + 1 := by rw [hV3, size_alloc, z2]
  have z4 : V4.heap.size = g2 + 1 + 1 := by rw [hV4, size_alloc, z3]
  rw [← hg1, ← hg2, ← hV1, ← hV2, ← hV3, ← hV4]
  obtain ⟨b1, hb1⟩ : ∃ b1, b1 = g1 + 1 := ⟨_, rfl⟩
  obtain ⟨b2, hb2⟩ : ∃ b2, b2 = g2 + 1 := ⟨_, rfl⟩
  rw [← hb1, ← hb2]
  obtain ⟨B0, hB0⟩ : ∃ B0, B0 = V4.heap.size := ⟨_, rfl⟩
  have x1 : Ext xk.w V1 := by rw [hV1]; exact (Ext.refl _).alloc _
  have x2 : Ext V1 V2 := by rw [hV2]; exact (Ext.refl _).alloc _
  have x3 : Ext V2 V3 := by rw [hV3]; exact (Ext.refl _).alloc _
  have x4 : Ext V3 V4 := by rw [hV4]; exact (Ext.refl _).alloc _
  have hTB : TwB xk.w V4 g1 b1 g2 b2 B0 s (.slice none 0 0) (.slice none 0 0) (.slice none 0 0) (.slice none 0 0) [] ((List.range 0).map (loT (tabC C))) (.slice none 0 0) (.slice none 0 0) [] ((List.range 0).map (hiT (tabC C))) := by
    refine ⟨x1.trans (x2.trans (x3.trans x4)), ⟨by omega, by omega, by omega, by omega, by omega⟩, heap_ext3 (by rw [hb1, ← z1, hV2]; exact heap_new _ _) (x3.trans x4), by rw [hb2, ← z3, hV4]; exact heap_new _ _, heap_ext3 (by rw [hg1, hV1]; exact heap_new _ _) (x2.trans (x3.trans x4)), heap_ext3 (by rw [← z2, hV3]; exact heap_new _ _) x4, BxR.nil _ _, BxR.nil _ _, fun y hy => (by cases hy), fun y hy => (by cases hy), by omega⟩
  have HTB0 := Lib.hid hTB
  have HBX := Lib.hid (by omega : B0 = g1 + 4)
  have HG1 := Lib.hid hg1
  have HNM := Lib.hid (⟨hb1, hb2, hg2⟩ : b1 = g1 + 1 ∧ b2 = g2 + 1 ∧ g2 = g1 + 1 + 1)
  clear hTB z1 z2 z3 z4 x1 x2 x3 x4 hV1 hV2 hV3 hV4 hg1 hg2 hb1 hb2 hB0 hm1 hm3
  obtain ⟨i1, hi, hz0, hz1, hz2⟩ := info_parts info_a
  have HI1 := Lib.hid (⟨hi, hz0, hz1, hz2⟩ : _ ∧ _ ∧ _ ∧ _)
  clear hi hz0 hz1 hz2
  obtain ⟨i2, hi, hz0, hz1, hz2⟩ := info_parts info_b
  have HI2 := Lib.hid (⟨hi, hz0, hz1, hz2⟩ : _ ∧ _ ∧ _ ∧ _)
  clear hi hz0 hz1 hz2
  obtain ⟨z, hz⟩ : ∃ z, z = errC C true := ⟨_, rfl⟩
  have hz2 : z = 0 ∨ z = 3 := by rw [hz]; exact errC_two3 HOK.out
  have HZ := Lib.hid hz
  clear hz HFA HCK
  go_wp2
  go_loopw [7] (fun a wr => ∃ k : Nat, k ≤ n ∧ a = .int .i64 k ∧ (1 ≤ k → z = 0) ∧ (∀ i, i < k → hiT (tabC C) i ≤ 999) ∧ ∃ vS1 vE1 es1 vS2 vE2 es2, TwB xk.w wr g1 b1 g2 b2 B0 s (.slice none 0 0) (.slice none 0 0) vS1 vE1 es1 ((List.range k).map (loT (tabC C))) vS2 vE2 es2 ((List.range k).map (hiT (tabC C)))) (fun a _ => n - (intOf a).toNat)
  case atStart => exact ⟨0, Nat.zero_le _, rfl, fun h => by omega, fun i h => by omega, _, _, [], _, _, [], HTB0.out⟩
  case round =>
    obtain ⟨k, hk, rfl, hkz, hk9, vS1, vE1, es1, vS2, vE2, es2, hM⟩ := hrel
    have HTB := Lib.hid hM
    have HKZ := Lib.hid hkz
    have HK9 := Lib.hid hk9
    have HEW := Lib.hid (xk.h.trans hM.ext)
    have k0 : wr.cell? ⟨s0, 0, none⟩ = some (.slice p n c) := a0 ⟨wr, HEW.out⟩
    have k1 : wr.cell? ⟨s0, 1, none⟩ = some (.slice q C.extra.length d) := a1 ⟨wr, HEW.out⟩
    have k2 : wr.cell? ⟨s0, 2, none⟩ = some (.int .i64 C.frm) := a2 ⟨wr, HEW.out⟩
    have k3 : wr.cell? ⟨s0, 3, none⟩ = some (.int .i64 C.tto) := a3 ⟨wr, HEW.out⟩
    clear hM hkz hk9
    by_cases hlt : k < n
    · have hlt' : (k : Int) < (n : Int) := by omega
      obtain ⟨nm, hnm⟩ : ∃ nm, nm = numsA C k := ⟨_, rfl⟩
      have HNU := Lib.hid (fun y (hy : Ext W y) u gg cx (hG : ChV y (.agg #[u, .slice (some ⟨gg, 0, none⟩) C.extra.length cx, .int .i64 C.frm, .int .i64 C.tto]) C) => (by
        have h := Numbers06F C (k : Int) _ y hG HSM.out (HTW.out.ext hy)
        have he : errT C k = z := by unfold errT; rw [isTB_iff.2 ⟨by omega, by have := HN.out; omega⟩]; exact HZ.out.symm
        rw [← hnm, he] at h
        exact h : Calls Tryz.prog 8 #[.agg #[u, .slice (some ⟨gg, 0, none⟩) C.extra.length cx, .int .i64 C.frm, .int .i64 C.tto], .int .i64 (k : Int)] y (RetNF nm z y)))
      have HNM2 := Lib.hid hnm
      have HCP := Lib.hid (Copy06 C _ wr (HVW.out wr HEW.out) HSM.out)
      clear hnm
      go_upto_region 9 with (first
        | (go_at_call 9; refine HCP.out.mono ?_; rintro e W2 ⟨u, gg, cx, rfl, hE2, hG2⟩)
        | (go_at_call 8; refine (HNU.out W2 (HEW.out.trans hE2) _ _ _ hG2.ch).mono ?_; rintro e wb ⟨pn, pc, rfl, hI9, hE9, hF9⟩))
      have HE9 := Lib.hid (hE2.trans hE9)
      have HE2 := Lib.hid hE2
      rcases hz2 with rfl | rfl
      case inr =>
        have HCW := Lib.hid (fun x : ExtW wb => ExtW.callX (x := x) (swapped07 x.w))
        obtain ⟨y1, hy1⟩ := ExtW.of (Ext.refl wb)
        clear hE2 hE9 hI9 hF9 hG2 k0 k1 k2 k3
        conv => arg 5; rw [hy1]
        clear hy1
        go_wp2_with (go_at_call 7; refine (HCW.out _).mono ?_; rintro e w2 ⟨rfl, xc, rfl, -⟩)
        go_ret
        exact RetE.fin (HE.out.trans (HEW.out.trans (HE9.out.trans xc.h))) rfl
      obtain ⟨hC, -, hso⟩ := errC_0 HZ.out.symm
      have hTG := tabC_ok hC hso
      have htl := tabC_len C
      obtain ⟨T, hTT⟩ : ∃ T, T = tabC C := ⟨_, rfl⟩
      have hkT : k < T.length := by rw [hTT, htl]; have := HN.out; omega
      have hnmT : nm = rowT T k := by rw [HNM2.out]; unfold numsA; rw [isTB_iff.2 ⟨by omega, by have := HN.out; omega⟩, askT_0 HZ.out.symm, hTT, Int.toNat_natCast]
      rw [← hTT] at hTG
      have hne : rowT T k ≠ [] := hTG.ok.ne hkT
      obtain ⟨nl, hnl⟩ : ∃ nl, nm.length = nl + 1 := ⟨nm.length - 1, by rw [hnmT]; have := List.length_pos_iff.2 hne; omega⟩
      have hx0 : nm[0]'(by omega) = loT T k := by rw [← head_at hnl, hnmT]; rfl
      have hx1 : nm[nl]'(by omega) = hiT T k := by rw [← last_at hnl, hnmT]; rfl
      obtain ⟨pb, po, pv, hpp, hpc, hpv⟩ := hI9 0 (by omega)
      obtain ⟨pb', po', pv', hpp', hpc', hpv'⟩ := hI9 nl (by omega)
      subst hpp
      cases hpp'
      subst hpv hpv'
      rw [hx0, Nat.add_zero] at hpc
      rw [hx1] at hpc'
      have hlo := lo_bd hTG hkT
      have hhi := hi_bd hTG hkT
      obtain ⟨xl, hxl⟩ : ∃ x, x = loT T k := ⟨_, rfl⟩
      obtain ⟨xh, hxh⟩ : ∃ x, x = hiT T k := ⟨_, rfl⟩
      rw [← hxl] at hpc hlo
      rw [← hxh] at hpc' hhi
      have hnl2 : nl ≤ 2000 := by
        have h := hTG.ls _ (List.getElem_mem hkT)
        rw [← rowT_get hkT, ← hnmT] at h
        omega
      have hnlw : IntKind.i64.wrap (nl : Int) = (nl : Int) := IntWalk.i64_in _ (by omega)
      have hnlt : (nl : Int) < (nl : Int) + 1 := by omega
      have hpF : wr.heap.size ≤ pb := Nat.le_trans HE2.out.size (hF9 _ rfl)
      have hpL : pb < wb.heap.size := lt_of_cell hpc
      have HPB := Lib.hid hpF
      have HXL := Lib.hid (by rw [← hTT]; exact hxl : xl = loT (tabC C) k)
      have HXH := Lib.hid (by rw [← hTT]; exact hxh : xh = hiT (tabC C) k)
      rw [hnl]
      clear hC hso hTG htl hTT hkT hnmT hne hnl hx0 hx1 hF9 hI9 hxl hxh HNU HNM2 hG2 hE2 hE9 hpF
      by_cases hbig : 999 < xh
      case pos =>
        go_wp2_with (go_at_call 7; refine (swapped07 wb).mono ?_; rintro e w2 ⟨rfl, hE3⟩)
        go_ret
        exact RetE.fin (HE.out.trans (HEW.out.trans (HE9.out.trans hE3))) rfl
      go_upto_region 13 with (fail)
      have HTBW := Lib.hid (HTB.out.ext' HE9.out)
      have HPC := Lib.hid hpc
      have hk6 : k ≤ 6 := by omega
      clear hpc
      · skip
        have hM := HTBW.out
        obtain ⟨l1, l2, l3, l4, l5⟩ := hM.lt
        have hrw : ∀ y, roomR vS1 (k + 1) = some y ∨ vE1.ownBlock = some y → y < wr.heap.size := fun y hy => hy.elim (fun h => (HTB.out.R1.S.lt y (roomR_own h)).2) (fun h => (HTB.out.R1.E.lt y h).2)
        have hrb : ∀ y, roomR vS1 (k + 1) = some y ∨ vE1.ownBlock = some y → B0 ≤ y ∧ y < wb.heap.size := fun y hy => hy.elim (fun h => hM.R1.S.lt y (roomR_own h)) (fun h => hM.R1.E.lt y h)
        have hpb := HPB.out
        have HKC := Lib.hid (fun y (h : Gr2 (roomR vS1 (k + 1)) vE1.ownBlock wb y) => (by
          have h2 := grow_off (B := B0) h (fun z hz => (hrb z hz).1) (by omega) hM.m1
          have h3 := h.block pb (by omega) (fun e => by have := hrw pb (Or.inl e.symm); omega) (fun e => by have := hrw pb (Or.inr e.symm); omega)
          exact ⟨cell_of_heap h2 1, cell_of_heap h2 2, (World.cell?_of_block (a := ⟨pb, po, none⟩) h3).trans HPC.out⟩ :
          y.cell? ⟨b1, 1, none⟩ = some vS1 ∧ y.cell? ⟨b1, 2, none⟩ = some vE1 ∧ y.cell? ⟨pb, po, none⟩ = some (.int .i64 xl)))
        have HKM := Lib.hid (fun y (h : Gr2 (roomR vS1 (k + 1)) vE1.ownBlock wb y) => grow_off (B := B0) h (fun z hz => (hrb z hz).1) (by omega) hM.m1)
        have HKP := Lib.hid (fun y (h : Gr2 (roomR vS1 (k + 1)) vE1.ownBlock wb y) => h.block pb (by omega) (fun e => by have := hrw pb (Or.inl e.symm); omega) (fun e => by have := hrw pb (Or.inr e.symm); omega))
        have HRB := Lib.hid (fun y hy => (hrb y hy).2)
        have HNS := Lib.hid (fun y (hy : vS1.ownBlock = some y) => own_ne2 hM.R1.S hM.R1.E (by decide) y hy)
        have HNE := Lib.hid (fun y (hy : vE1.ownBlock = some y) (e : roomR vS1 (k + 1) = some y) => own_ne2 hM.R1.E hM.R1.S (by decide) y hy (roomR_own e))
        have HOS := Lib.hid (by have h := hM.R1.S; rw [List.length_map, List.length_range] at h; exact h : wb.ownsRow B0 3 1 vS1 k (intVs (List.replicate k 1)))
        have HOE := Lib.hid (by have h := hM.R1.E; rw [List.length_map, List.length_range] at h; exact h : wb.ownsRow B0 23 1 vE1 k es1)
        have hB0w : B0 ≤ wb.heap.size := hM.sz
        clear hM l1 l2 l3 l4 l5 hrw hrb hpb
        refine wp_region_facts3 13 [[], [0], [], [1, 2], [], [4], [], [6], [7], [8], [9], [5, 10], []] [3, 11, 12] 3 11 [] [] (GrB vE1.ownBlock) (GrB (roomR vS1 (k + 1))) (Gr2 (roomR vS1 (k + 1)) vE1.ownBlock) (StH 3 11 (roomR vS1 (k + 1)) vE1.ownBlock) (FL [Is (.pointer (some ⟨b1, 1, none⟩)), Is (vS1), OneN wb.heap.size [.int .i64 1] 3, ApF vS1 wb.heap.size B0 1 k 3 (intVs (List.replicate k 1) ++ [.int .i64 1]), Is (.pointer (some ⟨b1, 2, none⟩)), Is (vE1), Is (.slice (some ⟨pb, po, none⟩) (nl + 1) pc), Is (.pointer (some ⟨pb, po, none⟩)), Is (.int .i64 xl), OneN wb.heap.size [.int .i64 xl] 3, OneS wb.heap.size xl, ApG vE1 wb.heap.size B0 k es1 xl, Is (.pointer (some ⟨b1, 1, none⟩))]) (by kernel_rfl) (by kernel_rfl) (by kernel_rfl) (by kernel_rfl) StH.all StH.one StH.two (fun _ _ _ => GrB.trans) (fun _ _ _ => GrB.trans) (GrB.refl _) (GrB.refl _) (Gr2.refl _ _) (fun _ _ _ => Gr2.trans) (fun _ _ h => h.size) ?_ ⟨?_, ?_, ?_, ?_, ?_, ?_, ?_, ?_, ?_, ?_, ?_, ?_, ?_, trivial⟩ ?_
        · intro i j v s t w w' hj hst
          match j, hj with
          | 0, _ => exact fun h => h
          | 1, _ => exact fun h => h
          | 2, _ => exact fun h => OneN.gr2 (s := s) (t := t) HRB.out h (StH.all _ _ _ hst)
          | 3, hj => exact fun h => ApF.gr (s := s) (t := t) HRB.out (fun y hy => HRB.out y (Or.inr hy)) HNS.out _ h (StH.one _ _ _ (fun e => hj e.symm) hst)
          | 4, _ => exact fun h => h
          | 5, _ => exact fun h => h
          | 6, _ => exact fun h => h
          | 7, _ => exact fun h => h
          | 8, _ => exact fun h => h
          | 9, _ => exact fun h => OneN.gr2 (s := s) (t := t) HRB.out h (StH.all _ _ _ hst)
          | 10, _ => exact fun h => OneS.gr2 (s := s) (t := t) HRB.out h (StH.all _ _ _ hst)
          | 11, hj => exact fun h => ApG.gr (s := s) (t := t) HRB.out (fun y hy => HRB.out y (Or.inl hy)) HNE.out _ h (StH.two _ _ _ (fun e => hj e.symm) hst)
          | 12, _ => exact fun h => h
          | n + 13, _ => exact fun h => h
        · refine opF3_step ?_
          intro ys l0 h0 w' hr hs hs2 hf K hK
          clear hf
          clear hs hs2
          simp only [fill, Act.put, dstO, List.take_succ_cons, List.take_zero, List.setIfInBounds_toArray, List.set_cons_zero, List.set_cons_succ, List.getElem?_cons_zero, Nat.zero_add, Nat.reduceAdd] at hK ⊢
          refine OpB.mk' ?_
          go_simp
          exact hK.out _ _ rfl (StH.self rfl rfl (Ext.refl _))
        · refine opF3_step ?_
          intro ys l0 h0 w' hr hs hs2 hf K hK
          obtain ⟨f0, -⟩ := hf
          have e0 : ys 0 = _ := f0
          obtain ⟨j0, j1, j2⟩ := HKC.out w' ((Gr2.left (GrB.ext ((Ext.refl wb).drew))).trans hr)
          clear hs hs2
          simp only [fill, Act.put, dstO, List.take_succ_cons, List.take_zero, List.setIfInBounds_toArray, List.set_cons_zero, List.set_cons_succ, List.getElem?_cons_zero, List.getElem?_cons_succ, Nat.zero_add, Nat.reduceAdd] at hK ⊢
          simp only [e0] at hK ⊢
          clear e0 f0
          refine OpB.mk' ?_
          go_simp
          exact hK.out _ _ rfl (StH.self rfl rfl (Ext.refl _))
        · refine opF3_step ?_
          intro ys l0 h0 w' hr hs hs2 hf K hK
          clear hf
          clear hs hs2
          simp only [fill, Act.put, dstO, List.take_succ_cons, List.take_zero, List.setIfInBounds_toArray, List.set_cons_zero, List.set_cons_succ, List.getElem?_cons_zero, List.getElem?_cons_succ, Nat.zero_add, Nat.reduceAdd] at hK ⊢
          refine OpB.mk' ?_
          go_simp
          exact hK.out _ _ ⟨_, rfl, by have := hr.size; exact this, heap_new _ _⟩ (StH.self rfl rfl (Ext.alloc (Ext.refl _) _))
        · refine opF3_step ?_
          intro ys l0 h0 w' hr hs hs2 hf K hK
          obtain ⟨f0, f1, -⟩ := hf
          have e0 : ys 1 = _ := f0
          obtain ⟨h1, e1, hB1, hg1⟩ := f1
          have hE0 := (GrB.ext ((Ext.refl wb).drew)).trans (hs (Or.inl rfl))
          have hsz := hr.size
          clear hs hs2
          simp only [fill, Act.put, dstO, List.take_succ_cons, List.take_zero, List.setIfInBounds_toArray, List.set_cons_zero, List.set_cons_succ, List.getElem?_cons_zero, List.getElem?_cons_succ, Nat.zero_add, Nat.reduceAdd] at hK ⊢
          simp only [e0, e1] at hK ⊢
          clear e0 e1 f0
          refine OpB.mkG rfl ?_
          refine wp_append_two (.tmp 90) (.tmp 91) 23 rfl B0 3 i1 _ 1 8 Tryz.underlying23 HI1.out.1 HI1.out.2.1 HI1.out.2.2.1 HI1.out.2.2.2 rfl (by decide) _ k _ rfl (ownsRow_fr HOS.out (grown_fr hE0) fun y hy e => HNS.out y hy e) ⟨h1, 0, none⟩ 1 1 [.int .i64 1] rfl rfl (one_news2 hg1) (by intro u hu; simp at hu; subst hu; rfl) (by decide) (by unfold maxLen; omega) (by omega) (by have : (wb.drew).heap.size = wb.heap.size := rfl; omega) _ rfl ?_
          intro g4 cap4 w4 ho4 hg4 hor
          exact hK.out _ _ ⟨g4, cap4, rfl, ho4, hor.imp (fun h => h) (fun h => by have : (wb.drew).heap.size = wb.heap.size := rfl; omega)⟩ (StH.k1 hg4)
        · refine opF3_step ?_
          intro ys l0 h0 w' hr hs hs2 hf K hK
          clear hf
          clear hs hs2
          simp only [fill, Act.put, dstO, List.take_succ_cons, List.take_zero, List.setIfInBounds_toArray, List.set_cons_zero, List.set_cons_succ, List.getElem?_cons_zero, List.getElem?_cons_succ, Nat.zero_add, Nat.reduceAdd] at hK ⊢
          refine OpB.mk' ?_
          go_simp
          exact hK.out _ _ rfl (StH.self rfl rfl (Ext.refl _))
        · refine opF3_step ?_
          intro ys l0 h0 w' hr hs hs2 hf K hK
          obtain ⟨f0, -⟩ := hf
          have e0 : ys 4 = _ := f0
          obtain ⟨j0, j1, j2⟩ := HKC.out w' ((Gr2.left (GrB.ext ((Ext.refl wb).drew))).trans hr)
          clear hs hs2
          simp only [fill, Act.put, dstO, List.take_succ_cons, List.take_zero, List.setIfInBounds_toArray, List.set_cons_zero, List.set_cons_succ, List.getElem?_cons_zero, List.getElem?_cons_succ, Nat.zero_add, Nat.reduceAdd] at hK ⊢
          simp only [e0] at hK ⊢
          clear e0 f0
          refine OpB.mk' ?_
          go_simp
          exact hK.out _ _ rfl (StH.self rfl rfl (Ext.refl _))
        · refine opF3_step ?_
          intro ys l0 h0 w' hr hs hs2 hf K hK
          clear hf
          clear hs hs2
          simp only [fill, Act.put, dstO, List.take_succ_cons, List.take_zero, List.setIfInBounds_toArray, List.set_cons_zero, List.set_cons_succ, List.getElem?_cons_zero, List.getElem?_cons_succ, Nat.zero_add, Nat.reduceAdd] at hK ⊢
          refine OpB.mk' ?_
          go_simp
          exact hK.out _ _ rfl (StH.self rfl rfl (Ext.refl _))
        · refine opF3_step ?_
          intro ys l0 h0 w' hr hs hs2 hf K hK
          obtain ⟨f0, -⟩ := hf
          have e0 : ys 6 = _ := f0
          clear hs hs2
          simp only [fill, Act.put, dstO, List.take_succ_cons, List.take_zero, List.setIfInBounds_toArray, List.set_cons_zero, List.set_cons_succ, List.getElem?_cons_zero, List.getElem?_cons_succ, Nat.zero_add, Nat.reduceAdd] at hK ⊢
          simp only [e0] at hK ⊢
          clear e0 f0
          refine OpB.mk' ?_
          go_simp
          exact hK.out _ _ rfl (StH.self rfl rfl (Ext.refl _))
        · refine opF3_step ?_
          intro ys l0 h0 w' hr hs hs2 hf K hK
          obtain ⟨f0, -⟩ := hf
          have e0 : ys 7 = _ := f0
          obtain ⟨j0, j1, j2⟩ := HKC.out w' ((Gr2.left (GrB.ext ((Ext.refl wb).drew))).trans hr)
          clear hs hs2
          simp only [fill, Act.put, dstO, List.take_succ_cons, List.take_zero, List.setIfInBounds_toArray, List.set_cons_zero, List.set_cons_succ, List.getElem?_cons_zero, List.getElem?_cons_succ, Nat.zero_add, Nat.reduceAdd] at hK ⊢
          simp only [e0] at hK ⊢
          clear e0 f0
          refine OpB.mk' ?_
          go_simp
          exact hK.out _ _ rfl (StH.self rfl rfl (Ext.refl _))
        · refine opF3_step ?_
          intro ys l0 h0 w' hr hs hs2 hf K hK
          obtain ⟨f0, -⟩ := hf
          have e0 : ys 8 = _ := f0
          clear hs hs2
          simp only [fill, Act.put, dstO, List.take_succ_cons, List.take_zero, List.setIfInBounds_toArray, List.set_cons_zero, List.set_cons_succ, List.getElem?_cons_zero, List.getElem?_cons_succ, Nat.zero_add, Nat.reduceAdd] at hK ⊢
          simp only [e0] at hK ⊢
          clear e0 f0
          refine OpB.mk' ?_
          go_simp
          exact hK.out _ _ ⟨_, rfl, by have := hr.size; exact this, heap_new _ _⟩ (StH.self rfl rfl (Ext.alloc (Ext.refl _) _))
        · refine opF3_step ?_
          intro ys l0 h0 w' hr hs hs2 hf K hK
          obtain ⟨f0, -⟩ := hf
          obtain ⟨g0, e0, hB0, hg0⟩ := f0
          clear hs hs2
          simp only [fill, Act.put, dstO, List.take_succ_cons, List.take_zero, List.setIfInBounds_toArray, List.set_cons_zero, List.set_cons_succ, List.getElem?_cons_zero, List.getElem?_cons_succ, Nat.zero_add, Nat.reduceAdd] at hK ⊢
          simp only [e0] at hK ⊢
          clear e0
          refine OpB.mk' ?_
          go_simp
          exact hK.out _ _ ⟨g0, _, rfl, hB0, by have := hr.size; exact this, heap_ext3 hg0 (Ext.alloc (Ext.refl _) _), heap_new _ _⟩ (StH.self rfl rfl (Ext.alloc (Ext.refl _) _))
        · refine opF3_step ?_
          intro ys l0 h0 w' hr hs hs2 hf K hK
          obtain ⟨f0, f1, -⟩ := hf
          have e0 : ys 5 = _ := f0
          obtain ⟨g0, h1, e1, hB0, hB1, hg0, hg1⟩ := f1
          have hE0 := (GrB.ext ((Ext.refl wb).drew)).trans (hs2 (Or.inl rfl))
          have hsz := hr.size
          clear hs hs2
          simp only [fill, Act.put, dstO, List.take_succ_cons, List.take_zero, List.setIfInBounds_toArray, List.set_cons_zero, List.set_cons_succ, List.getElem?_cons_zero, List.getElem?_cons_succ, Nat.zero_add, Nat.reduceAdd] at hK ⊢
          simp only [e0, e1] at hK ⊢
          clear e0 e1 f0
          refine OpB.mkG rfl ?_
          refine wp_append_lies _ (.tmp 94) (.tmp 99) 30 rfl B0 23 i2 _ 1 24 Tryz.underlying30 HI2.out.1 HI2.out.2.1 HI2.out.2.2.1 HI2.out.2.2.2 rfl (by decide) _ k _ rfl (ownsRow_fr HOE.out (grown_fr hE0) fun y hy e => HNE.out y hy e) ⟨h1, 0, none⟩ 1 1 [.slice (some ⟨g0, 0, none⟩) 1 1] rfl rfl (one_news2 hg1) (by intro u hu; simp at hu; subst hu; rfl) (by decide) (by unfold maxLen; omega) (by omega) (by have : (wb.drew).heap.size = wb.heap.size := rfl; omega) _ rfl ?_
          intro g4 cap4 w4 ho4 hg4 hor _
          exact hK.out _ _ ⟨g0, g4, cap4, rfl, hB0, GrB.keep hg4 hg0 (fun e => by have := HRB.out g0 (Or.inr e.symm); omega), ho4, hor.imp (fun h => h) (fun h => by have : (wb.drew).heap.size = wb.heap.size := rfl; omega)⟩ (StH.k2 rfl hg4)
        · refine opF3_step ?_
          intro ys l0 h0 w' hr hs hs2 hf K hK
          clear hf
          clear hs hs2
          simp only [fill, Act.put, dstO, List.take_succ_cons, List.take_zero, List.setIfInBounds_toArray, List.set_cons_zero, List.set_cons_succ, List.getElem?_cons_zero, List.getElem?_cons_succ, Nat.zero_add, Nat.reduceAdd] at hK ⊢
          refine OpB.mk' ?_
          go_simp
          exact hK.out _ _ rfl (StH.self rfl rfl (Ext.refl _))
        intro ys l0 h0 w2 hr hf hsp
        obtain ⟨f3, f11, f12, -⟩ := hf
        obtain ⟨h3, cap3, e3, ho3, hn3⟩ := f3
        obtain ⟨g0, h5, cap5, e11, hB0, hg0, ho5, hn5⟩ := f11
        have e12 : ys 12 = _ := f12
        simp only [fill, Act.put, List.take_succ_cons, List.take_zero, List.setIfInBounds_toArray, List.set_cons_zero, List.set_cons_succ, Nat.zero_add, Nat.reduceAdd, List.drop_succ_cons, List.drop_zero]
        rw [e12]
        clear e12 f12
        rw [e3] at ho3 ⊢
        rw [e11] at ho5 ⊢
        clear hsp
        have hG := (Gr2.left (GrB.ext ((Ext.refl wb).drew)) : Gr2 (roomR vS1 (k + 1)) vE1.ownBlock wb wb.drew).trans hr
        have hm2 := HKM.out w2 hG
        have hp2 := HKP.out w2 hG
        have HP2 := Lib.hid hp2
        have HG := Lib.hid hG
        have HO3 := Lib.hid ho3
        have HO5 := Lib.hid ho5
        have HG0 := Lib.hid hg0
        have HN3 := Lib.hid hn3
        have HN5 := Lib.hid hn5
        have c1 := cell_of_heap hm2 1
        have c2 := cell_of_heap hm2 2
        have f1 := cell_frozen hm2 1
        have f2 := cell_frozen hm2 2
        simp only [List.getElem?_toArray, List.getElem?_cons_zero, List.getElem?_cons_succ] at c1 c2
        clear hr hG ho3 ho5 hg0 hm2 hp2 hn3 hn5 e3 e11 HKC HKM HKP
        go_upto_region 14 with (fail)
        clear c1 c2 f1 f2
        have hst := HTBW.out.step1 (vS' := .slice (some ⟨h3, 0, none⟩) (k + 1) cap3) (vE' := .slice (some ⟨h5, 0, none⟩) (k + 1) cap5) (x := xl) (g := g0) (by rw [List.length_map, List.length_range]; exact HG.out)
          (by rw [List.length_map, List.length_range]; exact HO3.out) (by rw [List.length_map, List.length_range]; exact HO5.out) (by omega) HG0.out (fun y hy => by cases hy; exact HN3.out) (fun y hy => by cases hy; exact HN5.out)
        obtain ⟨wc, hwc⟩ : ∃ wc, wc = (w2.setCell ⟨b1, 1, none⟩ (.slice (some ⟨h3, 0, none⟩) (k + 1) cap3)).setCell ⟨b1, 2, none⟩ (.slice (some ⟨h5, 0, none⟩) (k + 1) cap5) := ⟨_, rfl⟩
        have hpw : wc.heap[pb]? = wb.heap[pb]? := by
          have hb1 : b1 < wr.heap.size := (Array.getElem?_eq_some_iff.1 HTB.out.m1).1
          have := HPB.out
          rw [hwc, heap_off (by omega), heap_off (by omega)]
          exact HP2.out
        have hpLc : pb < wc.heap.size := by
          have h1 : w2.heap.size ≤ wc.heap.size := by rw [hwc]; simp only [World.setCell, Array.size_modify]; omega
          have := HG.out.size
          omega
        rw [← hwc] at hst ⊢
        have HTBW := Lib.hid hst
        have HPC := Lib.hid ((World.cell?_of_block (a := ⟨pb, po + nl, none⟩) hpw).trans hpc' : wc.cell? ⟨pb, po + nl, none⟩ = some (.int .i64 xh))
        clear hst hpw hwc hpc' HP2 HG HO3 HO5 HG0 HN3 HN5 HRB HNS HNE HOS HOE hpL hB0w
        have hM := HTBW.out
        obtain ⟨l1, l2, l3, l4, l5⟩ := hM.lt
        have hrw : ∀ y, roomR vS2 (k + 1) = some y ∨ vE2.ownBlock = some y → y < wr.heap.size := fun y hy => hy.elim (fun h => (HTB.out.R2.S.lt y (roomR_own h)).2) (fun h => (HTB.out.R2.E.lt y h).2)
        have hrb : ∀ y, roomR vS2 (k + 1) = some y ∨ vE2.ownBlock = some y → B0 ≤ y ∧ y < wc.heap.size := fun y hy => hy.elim (fun h => hM.R2.S.lt y (roomR_own h)) (fun h => hM.R2.E.lt y h)
        have hpb := HPB.out
        have HKC := Lib.hid (fun y (h : Gr2 (roomR vS2 (k + 1)) vE2.ownBlock wc y) => (by
          have h2 := grow_off (B := B0) h (fun z hz => (hrb z hz).1) (by omega) hM.m2
          have h3 := h.block pb (by omega) (fun e => by have := hrw pb (Or.inl e.symm); omega) (fun e => by have := hrw pb (Or.inr e.symm); omega)
          exact ⟨cell_of_heap h2 1, cell_of_heap h2 2, (World.cell?_of_block (a := ⟨pb, po + nl, none⟩) h3).trans HPC.out⟩ :
          y.cell? ⟨b2, 1, none⟩ = some vS2 ∧ y.cell? ⟨b2, 2, none⟩ = some vE2 ∧ y.cell? ⟨pb, po + nl, none⟩ = some (.int .i64 xh)))
        have HKM := Lib.hid (fun y (h : Gr2 (roomR vS2 (k + 1)) vE2.ownBlock wc y) => grow_off (B := B0) h (fun z hz => (hrb z hz).1) (by omega) hM.m2)
        have HKP := Lib.hid (fun y (h : Gr2 (roomR vS2 (k + 1)) vE2.ownBlock wc y) => h.block pb (by omega) (fun e => by have := hrw pb (Or.inl e.symm); omega) (fun e => by have := hrw pb (Or.inr e.symm); omega))
        have HRB := Lib.hid (fun y hy => (hrb y hy).2)
        have HNS := Lib.hid (fun y (hy : vS2.ownBlock = some y) => own_ne2 hM.R2.S hM.R2.E (by decide) y hy)
        have HNE := Lib.hid (fun y (hy : vE2.ownBlock = some y) (e : roomR vS2 (k + 1) = some y) => own_ne2 hM.R2.E hM.R2.S (by decide) y hy (roomR_own e))
        have HOS := Lib.hid (by have h := hM.R2.S; rw [List.length_map, List.length_range] at h; exact h : wc.ownsRow B0 3 1 vS2 k (intVs (List.replicate k 1)))
        have HOE := Lib.hid (by have h := hM.R2.E; rw [List.length_map, List.length_range] at h; exact h : wc.ownsRow B0 23 1 vE2 k es2)
        have hB0w : B0 ≤ wc.heap.size := hM.sz
        clear hM l1 l2 l3 l4 l5 hrw hrb hpb
        refine wp_region_facts3 16 [[], [0], [], [1, 2], [], [4], [], [], [7], [8], [6, 9], [10], [11], [12], [5, 13], []] [3, 14, 15] 3 14 [] [] (GrB vE2.ownBlock) (GrB (roomR vS2 (k + 1))) (Gr2 (roomR vS2 (k + 1)) vE2.ownBlock) (StH 3 14 (roomR vS2 (k + 1)) vE2.ownBlock) (FL [Is (.pointer (some ⟨b2, 1, none⟩)), Is (vS2), OneN wc.heap.size [.int .i64 1] 3, ApF vS2 wc.heap.size B0 1 k 3 (intVs (List.replicate k 1) ++ [.int .i64 1]), Is (.pointer (some ⟨b2, 2, none⟩)), Is (vE2), Is (.slice (some ⟨pb, po, none⟩) (nl + 1) pc), Is (.slice (some ⟨pb, po, none⟩) (nl + 1) pc), Is (.int .i64 ((nl : Int) + 1)), Is (.int .i64 (nl : Int)), Is (.pointer (some ⟨pb, po + nl, none⟩)), Is (.int .i64 xh), OneN wc.heap.size [.int .i64 xh] 3, OneS wc.heap.size xh, ApG vE2 wc.heap.size B0 k es2 xh, Is (.pointer (some ⟨b2, 1, none⟩))]) (by kernel_rfl) (by kernel_rfl) (by kernel_rfl) (by kernel_rfl) StH.all StH.one StH.two (fun _ _ _ => GrB.trans) (fun _ _ _ => GrB.trans) (GrB.refl _) (GrB.refl _) (Gr2.refl _ _) (fun _ _ _ => Gr2.trans) (fun _ _ h => h.size) ?_ ⟨?_, ?_, ?_, ?_, ?_, ?_, ?_, ?_, ?_, ?_, ?_, ?_, ?_, ?_, ?_, ?_, trivial⟩ ?_
        · intro i j v s t w w' hj hst
          match j, hj with
          | 0, _ => exact fun h => h
          | 1, _ => exact fun h => h
          | 2, _ => exact fun h => OneN.gr2 (s := s) (t := t) HRB.out h (StH.all _ _ _ hst)
          | 3, hj => exact fun h => ApF.gr (s := s) (t := t) HRB.out (fun y hy => HRB.out y (Or.inr hy)) HNS.out _ h (StH.one _ _ _ (fun e => hj e.symm) hst)
          | 4, _ => exact fun h => h
          | 5, _ => exact fun h => h
          | 6, _ => exact fun h => h
          | 7, _ => exact fun h => h
          | 8, _ => exact fun h => h
          | 9, _ => exact fun h => h
          | 10, _ => exact fun h => h
          | 11, _ => exact fun h => h
          | 12, _ => exact fun h => OneN.gr2 (s := s) (t := t) HRB.out h (StH.all _ _ _ hst)
          | 13, _ => exact fun h => OneS.gr2 (s := s) (t := t) HRB.out h (StH.all _ _ _ hst)
          | 14, hj => exact fun h => ApG.gr (s := s) (t := t) HRB.out (fun y hy => HRB.out y (Or.inl hy)) HNE.out _ h (StH.two _ _ _ (fun e => hj e.symm) hst)
          | 15, _ => exact fun h => h
          | n + 16, _ => exact fun h => h
        · refine opF3_step ?_
          intro ys l0 h0 w' hr hs hs2 hf K hK
          clear hf
          clear hs hs2
          simp only [fill, Act.put, dstO, List.take_succ_cons, List.take_zero, List.setIfInBounds_toArray, List.set_cons_zero, List.set_cons_succ, List.getElem?_cons_zero, Nat.zero_add, Nat.reduceAdd] at hK ⊢
          refine OpB.mk' ?_
          go_simp
          exact hK.out _ _ rfl (StH.self rfl rfl (Ext.refl _))
        · refine opF3_step ?_
          intro ys l0 h0 w' hr hs hs2 hf K hK
          obtain ⟨f0, -⟩ := hf
          have e0 : ys 0 = _ := f0
          obtain ⟨j0, j1, j2⟩ := HKC.out w' ((Gr2.left (GrB.ext ((Ext.refl wc).drew))).trans hr)
          clear hs hs2
          simp only [fill, Act.put, dstO, List.take_succ_cons, List.take_zero, List.setIfInBounds_toArray, List.set_cons_zero, List.set_cons_succ, List.getElem?_cons_zero, List.getElem?_cons_succ, Nat.zero_add, Nat.reduceAdd] at hK ⊢
          simp only [e0] at hK ⊢
          clear e0 f0
          refine OpB.mk' ?_
          go_simp
          exact hK.out _ _ rfl (StH.self rfl rfl (Ext.refl _))
        · refine opF3_step ?_
          intro ys l0 h0 w' hr hs hs2 hf K hK
          clear hf
          clear hs hs2
          simp only [fill, Act.put, dstO, List.take_succ_cons, List.take_zero, List.setIfInBounds_toArray, List.set_cons_zero, List.set_cons_succ, List.getElem?_cons_zero, List.getElem?_cons_succ, Nat.zero_add, Nat.reduceAdd] at hK ⊢
          refine OpB.mk' ?_
          go_simp
          exact hK.out _ _ ⟨_, rfl, by have := hr.size; exact this, heap_new _ _⟩ (StH.self rfl rfl (Ext.alloc (Ext.refl _) _))
        · refine opF3_step ?_
          intro ys l0 h0 w' hr hs hs2 hf K hK
          obtain ⟨f0, f1, -⟩ := hf
          have e0 : ys 1 = _ := f0
          obtain ⟨h1, e1, hB1, hg1⟩ := f1
          have hE0 := (GrB.ext ((Ext.refl wc).drew)).trans (hs (Or.inl rfl))
          have hsz := hr.size
          clear hs hs2
          simp only [fill, Act.put, dstO, List.take_succ_cons, List.take_zero, List.setIfInBounds_toArray, List.set_cons_zero, List.set_cons_succ, List.getElem?_cons_zero, List.getElem?_cons_succ, Nat.zero_add, Nat.reduceAdd] at hK ⊢
          simp only [e0, e1] at hK ⊢
          clear e0 e1 f0
          refine OpB.mkG rfl ?_
          refine wp_append_two (.tmp 104) (.tmp 105) 23 rfl B0 3 i1 _ 1 8 Tryz.underlying23 HI1.out.1 HI1.out.2.1 HI1.out.2.2.1 HI1.out.2.2.2 rfl (by decide) _ k _ rfl (ownsRow_fr HOS.out (grown_fr hE0) fun y hy e => HNS.out y hy e) ⟨h1, 0, none⟩ 1 1 [.int .i64 1] rfl rfl (one_news2 hg1) (by intro u hu; simp at hu; subst hu; rfl) (by decide) (by unfold maxLen; omega) (by omega) (by have : (wc.drew).heap.size = wc.heap.size := rfl; omega) _ rfl ?_
          intro g4 cap4 w4 ho4 hg4 hor
          exact hK.out _ _ ⟨g4, cap4, rfl, ho4, hor.imp (fun h => h) (fun h => by have : (wc.drew).heap.size = wc.heap.size := rfl; omega)⟩ (StH.k1 hg4)
        · refine opF3_step ?_
          intro ys l0 h0 w' hr hs hs2 hf K hK
          clear hf
          clear hs hs2
          simp only [fill, Act.put, dstO, List.take_succ_cons, List.take_zero, List.setIfInBounds_toArray, List.set_cons_zero, List.set_cons_succ, List.getElem?_cons_zero, List.getElem?_cons_succ, Nat.zero_add, Nat.reduceAdd] at hK ⊢
          refine OpB.mk' ?_
          go_simp
          exact hK.out _ _ rfl (StH.self rfl rfl (Ext.refl _))
        · refine opF3_step ?_
          intro ys l0 h0 w' hr hs hs2 hf K hK
          obtain ⟨f0, -⟩ := hf
          have e0 : ys 4 = _ := f0
          obtain ⟨j0, j1, j2⟩ := HKC.out w' ((Gr2.left (GrB.ext ((Ext.refl wc).drew))).trans hr)
          clear hs hs2
          simp only [fill, Act.put, dstO, List.take_succ_cons, List.take_zero, List.setIfInBounds_toArray, List.set_cons_zero, List.set_cons_succ, List.getElem?_cons_zero, List.getElem?_cons_succ, Nat.zero_add, Nat.reduceAdd] at hK ⊢
          simp only [e0] at hK ⊢
          clear e0 f0
          refine OpB.mk' ?_
          go_simp
          exact hK.out _ _ rfl (StH.self rfl rfl (Ext.refl _))
        · refine opF3_step ?_
          intro ys l0 h0 w' hr hs hs2 hf K hK
          clear hf
          clear hs hs2
          simp only [fill, Act.put, dstO, List.take_succ_cons, List.take_zero, List.setIfInBounds_toArray, List.set_cons_zero, List.set_cons_succ, List.getElem?_cons_zero, List.getElem?_cons_succ, Nat.zero_add, Nat.reduceAdd] at hK ⊢
          refine OpB.mk' ?_
          go_simp
          exact hK.out _ _ rfl (StH.self rfl rfl (Ext.refl _))
        · refine opF3_step ?_
          intro ys l0 h0 w' hr hs hs2 hf K hK
          clear hf
          clear hs hs2
          simp only [fill, Act.put, dstO, List.take_succ_cons, List.take_zero, List.setIfInBounds_toArray, List.set_cons_zero, List.set_cons_succ, List.getElem?_cons_zero, List.getElem?_cons_succ, Nat.zero_add, Nat.reduceAdd] at hK ⊢
          refine OpB.mk' ?_
          go_simp
          exact hK.out _ _ rfl (StH.self rfl rfl (Ext.refl _))
        · refine opF3_step ?_
          intro ys l0 h0 w' hr hs hs2 hf K hK
          obtain ⟨f0, -⟩ := hf
          have e0 : ys 7 = _ := f0
          clear hs hs2
          simp only [fill, Act.put, dstO, List.take_succ_cons, List.take_zero, List.setIfInBounds_toArray, List.set_cons_zero, List.set_cons_succ, List.getElem?_cons_zero, List.getElem?_cons_succ, Nat.zero_add, Nat.reduceAdd] at hK ⊢
          simp only [e0] at hK ⊢
          clear e0 f0
          refine OpB.mk' ?_
          go_simp
          exact hK.out _ _ rfl (StH.self rfl rfl (Ext.refl _))
        · refine opF3_step ?_
          intro ys l0 h0 w' hr hs hs2 hf K hK
          obtain ⟨f0, -⟩ := hf
          have e0 : ys 8 = _ := f0
          clear hs hs2
          simp only [fill, Act.put, dstO, List.take_succ_cons, List.take_zero, List.setIfInBounds_toArray, List.set_cons_zero, List.set_cons_succ, List.getElem?_cons_zero, List.getElem?_cons_succ, Nat.zero_add, Nat.reduceAdd] at hK ⊢
          simp only [e0] at hK ⊢
          clear e0 f0
          refine OpB.mk' ?_
          go_simp
          exact hK.out _ _ rfl (StH.self rfl rfl (Ext.refl _))
        · refine opF3_step ?_
          intro ys l0 h0 w' hr hs hs2 hf K hK
          obtain ⟨f0, f1, -⟩ := hf
          have e0 : ys 6 = _ := f0
          have e1 : ys 9 = _ := f1
          clear hs hs2
          simp only [fill, Act.put, dstO, List.take_succ_cons, List.take_zero, List.setIfInBounds_toArray, List.set_cons_zero, List.set_cons_succ, List.getElem?_cons_zero, List.getElem?_cons_succ, Nat.zero_add, Nat.reduceAdd] at hK ⊢
          simp only [e0, e1] at hK ⊢
          clear e0 e1 f0 f1
          refine OpB.mk' ?_
          go_simp
          exact hK.out _ _ rfl (StH.self rfl rfl (Ext.refl _))
        · refine opF3_step ?_
          intro ys l0 h0 w' hr hs hs2 hf K hK
          obtain ⟨f0, -⟩ := hf
          have e0 : ys 10 = _ := f0
          obtain ⟨j0, j1, j2⟩ := HKC.out w' ((Gr2.left (GrB.ext ((Ext.refl wc).drew))).trans hr)
          clear hs hs2
          simp only [fill, Act.put, dstO, List.take_succ_cons, List.take_zero, List.setIfInBounds_toArray, List.set_cons_zero, List.set_cons_succ, List.getElem?_cons_zero, List.getElem?_cons_succ, Nat.zero_add, Nat.reduceAdd] at hK ⊢
          simp only [e0] at hK ⊢
          clear e0 f0
          refine OpB.mk' ?_
          go_simp
          exact hK.out _ _ rfl (StH.self rfl rfl (Ext.refl _))
        · refine opF3_step ?_
          intro ys l0 h0 w' hr hs hs2 hf K hK
          obtain ⟨f0, -⟩ := hf
          have e0 : ys 11 = _ := f0
          clear hs hs2
          simp only [fill, Act.put, dstO, List.take_succ_cons, List.take_zero, List.setIfInBounds_toArray, List.set_cons_zero, List.set_cons_succ, List.getElem?_cons_zero, List.getElem?_cons_succ, Nat.zero_add, Nat.reduceAdd] at hK ⊢
          simp only [e0] at hK ⊢
          clear e0 f0
          refine OpB.mk' ?_
          go_simp
          exact hK.out _ _ ⟨_, rfl, by have := hr.size; exact this, heap_new _ _⟩ (StH.self rfl rfl (Ext.alloc (Ext.refl _) _))
        · refine opF3_step ?_
          intro ys l0 h0 w' hr hs hs2 hf K hK
          obtain ⟨f0, -⟩ := hf
          obtain ⟨g0, e0, hB0, hg0⟩ := f0
          clear hs hs2
          simp only [fill, Act.put, dstO, List.take_succ_cons, List.take_zero, List.setIfInBounds_toArray, List.set_cons_zero, List.set_cons_succ, List.getElem?_cons_zero, List.getElem?_cons_succ, Nat.zero_add, Nat.reduceAdd] at hK ⊢
          simp only [e0] at hK ⊢
          clear e0
          refine OpB.mk' ?_
          go_simp
          exact hK.out _ _ ⟨g0, _, rfl, hB0, by have := hr.size; exact this, heap_ext3 hg0 (Ext.alloc (Ext.refl _) _), heap_new _ _⟩ (StH.self rfl rfl (Ext.alloc (Ext.refl _) _))
        · refine opF3_step ?_
          intro ys l0 h0 w' hr hs hs2 hf K hK
          obtain ⟨f0, f1, -⟩ := hf
          have e0 : ys 5 = _ := f0
          obtain ⟨g0, h1, e1, hB0, hB1, hg0, hg1⟩ := f1
          have hE0 := (GrB.ext ((Ext.refl wc).drew)).trans (hs2 (Or.inl rfl))
          have hsz := hr.size
          clear hs hs2
          simp only [fill, Act.put, dstO, List.take_succ_cons, List.take_zero, List.setIfInBounds_toArray, List.set_cons_zero, List.set_cons_succ, List.getElem?_cons_zero, List.getElem?_cons_succ, Nat.zero_add, Nat.reduceAdd] at hK ⊢
          simp only [e0, e1] at hK ⊢
          clear e0 e1 f0
          refine OpB.mkG rfl ?_
          refine wp_append_lies _ (.tmp 108) (.tmp 116) 30 rfl B0 23 i2 _ 1 24 Tryz.underlying30 HI2.out.1 HI2.out.2.1 HI2.out.2.2.1 HI2.out.2.2.2 rfl (by decide) _ k _ rfl (ownsRow_fr HOE.out (grown_fr hE0) fun y hy e => HNE.out y hy e) ⟨h1, 0, none⟩ 1 1 [.slice (some ⟨g0, 0, none⟩) 1 1] rfl rfl (one_news2 hg1) (by intro u hu; simp at hu; subst hu; rfl) (by decide) (by unfold maxLen; omega) (by omega) (by have : (wc.drew).heap.size = wc.heap.size := rfl; omega) _ rfl ?_
          intro g4 cap4 w4 ho4 hg4 hor _
          exact hK.out _ _ ⟨g0, g4, cap4, rfl, hB0, GrB.keep hg4 hg0 (fun e => by have := HRB.out g0 (Or.inr e.symm); omega), ho4, hor.imp (fun h => h) (fun h => by have : (wc.drew).heap.size = wc.heap.size := rfl; omega)⟩ (StH.k2 rfl hg4)
        · refine opF3_step ?_
          intro ys l0 h0 w' hr hs hs2 hf K hK
          clear hf
          clear hs hs2
          simp only [fill, Act.put, dstO, List.take_succ_cons, List.take_zero, List.setIfInBounds_toArray, List.set_cons_zero, List.set_cons_succ, List.getElem?_cons_zero, List.getElem?_cons_succ, Nat.zero_add, Nat.reduceAdd] at hK ⊢
          refine OpB.mk' ?_
          go_simp
          exact hK.out _ _ rfl (StH.self rfl rfl (Ext.refl _))
        intro ys l0 h0 w2 hr hf hsp
        obtain ⟨f3, f14, f15, -⟩ := hf
        obtain ⟨h3, cap3, e3, ho3, hn3⟩ := f3
        obtain ⟨g0, h5, cap5, e14, hB0, hg0, ho5, hn5⟩ := f14
        have e15 : ys 15 = _ := f15
        simp only [fill, Act.put, List.take_succ_cons, List.take_zero, List.setIfInBounds_toArray, List.set_cons_zero, List.set_cons_succ, Nat.zero_add, Nat.reduceAdd, List.drop_succ_cons, List.drop_zero]
        rw [e15]
        clear e15 f15
        rw [e3] at ho3 ⊢
        rw [e14] at ho5 ⊢
        clear hsp
        have hG := (Gr2.left (GrB.ext ((Ext.refl wc).drew)) : Gr2 (roomR vS2 (k + 1)) vE2.ownBlock wc wc.drew).trans hr
        have hm2 := HKM.out w2 hG
        have hp2 := HKP.out w2 hG
        have HP2 := Lib.hid hp2
        have HG := Lib.hid hG
        have HO3 := Lib.hid ho3
        have HO5 := Lib.hid ho5
        have HG0 := Lib.hid hg0
        have HN3 := Lib.hid hn3
        have HN5 := Lib.hid hn5
        have c1 := cell_of_heap hm2 1
        have c2 := cell_of_heap hm2 2
        have f1 := cell_frozen hm2 1
        have f2 := cell_frozen hm2 2
        simp only [List.getElem?_toArray, List.getElem?_cons_zero, List.getElem?_cons_succ] at c1 c2
        clear hr hG ho3 ho5 hg0 hm2 hp2 hn3 hn5 e3 e14 HKC HKM HKP
        have HBG := Lib.hid hbig; clear hnlw hnlt hnl2 hbig hhi hlo k0 k1 k2 k3 a0 a1 a2 a3 hpLc; have HBW := Lib.hid hB0w; clear hB0w; go_wp2; have hB0w := HBW.out
        clear c1 c2 f1 f2
        have hst := HTBW.out.step2 (vS' := .slice (some ⟨h3, 0, none⟩) (k + 1) cap3) (vE' := .slice (some ⟨h5, 0, none⟩) (k + 1) cap5) (x := xh) (g := g0) (by rw [List.length_map, List.length_range]; exact HG.out)
          (by rw [List.length_map, List.length_range]; exact HO3.out) (by rw [List.length_map, List.length_range]; exact HO5.out) (by omega) HG0.out (fun y hy => by cases hy; exact HN3.out) (fun y hy => by cases hy; exact HN5.out)
        have e1 : (List.range k).map (loT (tabC C)) ++ [xl] = (List.range (k + 1)).map (loT (tabC C)) := by rw [HXL.out]; exact map_snoc _ _
        have e2 : (List.range k).map (hiT (tabC C)) ++ [xh] = (List.range (k + 1)).map (hiT (tabC C)) := by rw [HXH.out]; exact map_snoc _ _
        rw [e1, e2] at hst
        have HTBD := Lib.hid hst
        clear hst
        exact ⟨⟨k + 1, by omega, by simp, fun _ => trivial, fun i hi => by
          by_cases hik : i < k
          · exact HK9.out i hik
          · obtain rfl : i = k := by omega
            have := HBG.out; rw [← HXH.out]; omega, _, _, _, _, _, _, HTBD.out⟩, by simp [intOf]; omega⟩
    · obtain rfl : k = n := by omega
      obtain ⟨wm, hwm⟩ : ∃ wm, wm = wr := ⟨_, rfl⟩
      subst hwm
      have hM := HTB.out
      obtain ⟨l1, l2, l3, l4, l5⟩ := hM.lt
      have hsz := hM.sz
      have HMI := Lib.hid (⟨Fr.refl _ _, ⟨by omega, by omega, by omega⟩, hM.h1, hM.h2, World.ownsRow_nil _ _ _ _, World.ownsRow_nil _ _ _ _, fun y hy => (by cases hy)⟩ : TwI wm wm g1 g2 (.slice none 0 0) (.slice none 0 0) 0)
      obtain ⟨lo, hlo⟩ : ∃ lo : Nat → Int, lo = loT (tabC C) := ⟨_, rfl⟩
      obtain ⟨hi, hhi⟩ : ∃ hi : Nat → Int, hi = hiT (tabC C) := ⟨_, rfl⟩
      have hz0 : 1 ≤ k → z = 0 := HKZ.out
      have hbd : ∀ i, i < k → (0 ≤ lo i ∧ lo i ≤ 999) ∧ (0 ≤ hi i ∧ hi i ≤ 999) := fun i hi' => by
        have hz1 := hz0 (by omega)
        rw [hz1] at HZ
        obtain ⟨hC, -, hso⟩ := errC_0 HZ.out.symm
        have hTG := tabC_ok hC hso
        have hik : i < (tabC C).length := by rw [tabC_len]; have := HN.out; omega
        have h1 := lo_bd hTG hik
        have h2 : loT (tabC C) i ≤ hiT (tabC C) i := lo_le hTG.ok (hi_mem hTG.ok hik)
        have h3 := hi_bd hTG hik
        have h4 := HK9.out i hi'
        subst hlo hhi
        exact ⟨⟨h1.1, by omega⟩, ⟨h3.1, h4⟩⟩
      have HBL := Lib.hid (fun i (h : i < k) => (hbd i h).1)
      have HBH := Lib.hid (fun i (h : i < k) => (hbd i h).2)
      have HCU := Lib.hid (fun j (hj : j < k) y (hy : Ext W y) u gg cx (hG : ChV y (.agg #[u, .slice (some ⟨gg, 0, none⟩) C.extra.length cx, .int .i64 C.frm, .int .i64 C.tto]) C) => (by
        have h := Cut06 C ((j : Int) + 1) _ y hG HSM.out (HTW.out.ext hy) (by rcases (by omega : j = 0 ∨ j = 1 ∨ j = 2 ∨ j = 3 ∨ j = 4 ∨ j = 5) with rfl | rfl | rfl | rfl | rfl | rfl <;> decide)
        have hz1 := hz0 (by omega)
        have he : errF C ((j : Int) + 1) = 0 := by unfold errF; rw [isFB_iff.2 ⟨by omega, by have := HN.out; omega⟩, ← HZ.out]; exact hz1
        have htl : (tabC C).length = k := by rw [tabC_len]; exact HN.out.symm
        have e1 : cutLoA C ((j : Int) + 1) = cutN k lo ((j : Int) + 1) := by unfold cutLoA; rw [he, htl, hlo]; rfl
        have e2 : cutHiA C ((j : Int) + 1) = cutN k hi ((j : Int) + 1) := by unfold cutHiA; rw [he, htl, hhi]; rfl
        rw [e1, e2, he] at h
        exact h : Calls Tryz.prog 10 #[.agg #[u, .slice (some ⟨gg, 0, none⟩) C.extra.length cx, .int .i64 C.frm, .int .i64 C.tto], .int .i64 ((j : Int) + 1)] y (RetSp (cutN k lo ((j : Int) + 1)) (cutN k hi ((j : Int) + 1)) 0 y)))
      have HLO := Lib.hid hlo
      have HHI := Lib.hid hhi
      clear hM l1 l2 l3 l4 l5 hsz hlt hlo hhi hbd hz0
      go_wp2
      go_loopw [10, 11, 12] (fun a b i wz => ∃ j : Nat, j ≤ s ∧ i = .int .i64 j ∧ a = .int .i64 (topSum k lo j) ∧ b = .int .i64 (topSum k hi j) ∧ ∃ v1 v2, TwI wm wz g1 g2 v1 v2 j) (fun _ _ i _ => s - (intOf i).toNat)
      case atStart => exact ⟨0, Nat.zero_le _, rfl, rfl, rfl, _, _, HMI.out⟩
      case round =>
        obtain ⟨j, hj, rfl, rfl, rfl, v1, v2, hI⟩ := hrel
        obtain ⟨wz, hwz⟩ : ∃ wz, wz = wr := ⟨_, rfl⟩
        subst hwz
        obtain ⟨la, hla⟩ : ∃ la, la = topSum k lo j := ⟨_, rfl⟩
        obtain ⟨ma, hma⟩ : ∃ ma, ma = topSum k hi j := ⟨_, rfl⟩
        rw [← hla, ← hma]
        have HLA := Lib.hid hla
        have HMA := Lib.hid hma
        have HI := Lib.hid hI
        clear hla hma hI
        by_cases hlt : j < s
        · have hlt' : (j : Int) < (s : Int) := by omega
          have hI := HI.out
          obtain ⟨l1, l2, l3⟩ := hI.lt
          obtain ⟨t1, t2, t3, t4, t5⟩ := HTB.out.lt
          have hwsz := hI.fr.size
          have hB : b2 < wm.heap.size := (Array.getElem?_eq_some_iff.1 HTB.out.m2).1
          have hr1 : ∀ y, v1.ownBlock = some y → wm.heap.size ≤ y ∧ y < wz.heap.size := fun y hy => hI.I1.lt y hy
          have hr2 : ∀ y, v2.ownBlock = some y → wm.heap.size ≤ y ∧ y < wz.heap.size := fun y hy => hI.I2.lt y hy
          have hmb1 := hI.old HTB.out.m1 (by omega) (by omega)
          have hmb2 := hI.old HTB.out.m2 (by omega) (by omega)
          have HKC := Lib.hid (fun y (h : RR3 v1.ownBlock v2.ownBlock g1 wz y) => (by
            have n1 : ∀ z, z < wm.heap.size → z ≠ g1 → ¬(v1.ownBlock = some z ∨ v2.ownBlock = some z ∨ z = g1) := fun z hz hz2 e => by
              rcases e with e | e | e
              · have := hr1 z e; omega
              · have := hr2 z e; omega
              · exact hz2 e
            have k1 := (h.block b1 (by omega) (n1 b1 (by omega) (by omega))).trans hmb1
            have k2 := (h.block b2 (by omega) (n1 b2 (by omega) (by omega))).trans hmb2
            have k3 := (h.block g2 (by omega) (n1 g2 (by omega) (by omega))).trans hI.h2
            exact ⟨cell_of_heap k1 0, cell_of_heap k2 0, cell_of_heap k3 0⟩ :
            y.cell? ⟨b1, 0, none⟩ = some (.slice (some ⟨g1, 0, none⟩) 1 1) ∧ y.cell? ⟨b2, 0, none⟩ = some (.slice (some ⟨g2, 0, none⟩) 1 1) ∧ y.cell? ⟨g2, 0, none⟩ = some v2))
          have HK2 := Lib.hid (fun y (h : RR3 v1.ownBlock v2.ownBlock g1 wz y) => ((h.block g2 (by omega) (fun e => by
            rcases e with e | e | e
            · have := hr1 g2 e; omega
            · have := hr2 g2 e; omega
            · omega)).trans hI.h2 : y.heap[g2]? = some (.cells #[v2] 23)))
          have HKH := Lib.hid (fun y (h : Fr (fun z => v1.ownBlock = some z ∨ v2.ownBlock = some z) wz y) => ((h.block g1 (by omega) (fun e => by
            rcases e with e | e
            · have := hr1 g1 e; omega
            · have := hr2 g1 e; omega)).trans hI.h1 : y.heap[g1]? = some (.cells #[v1] 23)))
          have HKG := Lib.hid (fun y h => (cell_of_heap (HKH.out y h) 0 : y.cell? ⟨g1, 0, none⟩ = some v1))
          have HRB := Lib.hid (fun y (h : v1.ownBlock = some y ∨ v2.ownBlock = some y ∨ y = g1) => (by
            rcases h with e | e | e
            · exact (hr1 y e).2
            · exact (hr2 y e).2
            · omega : y < wz.heap.size))
          have HRB1 := Lib.hid (fun y (h : v1.ownBlock = some y ∨ y = g1) => HRB.out y (h.elim Or.inl fun e => Or.inr (Or.inr e)))
          have HRB2 := Lib.hid (fun y (h : v2.ownBlock = some y ∨ y = g1) => HRB.out y (Or.inr h))
          have HN1 := Lib.hid (fun y (hy : v1.ownBlock = some y) (e : v2.ownBlock = some y ∨ y = g1) => (by
            rcases e with e | e
            · exact hI.d y hy e
            · have := hr1 y hy; omega : False))
          have HN2 := Lib.hid (fun y (hy : v2.ownBlock = some y) (e : v1.ownBlock = some y ∨ y = g1) => (by
            rcases e with e | e
            · exact hI.d y e hy
            · have := hr2 y hy; omega : False))
          have HNG := Lib.hid (fun (e : v1.ownBlock = some g1 ∨ v2.ownBlock = some g1) => (by
            rcases e with e | e
            · have := hr1 g1 e; omega
            · have := hr2 g1 e; omega : False))
          have HDD := Lib.hid (fun y (h : v1.ownBlock = some y) (h' : v2.ownBlock = some y) => hI.d y h h')
          have HOA := Lib.hid hI.I1
          have HOB := Lib.hid hI.I2
          have hj3 : j ≤ 3 := by omega
          clear hI l1 l2 l3 t1 t2 t3 t4 t5 hB hr1 hr2 hmb1 hmb2
          go_upto_region 19 with (fail)
          refine wp_region_facts5 20 [[], [0], [], [2], [], [4], [5], [6], [], [8], [7, 9], [], [11], [12], [13], [], [15], [14, 16, 10], [1], [18, 10]] [3, 10, 17, 19] [10, 17, 19] (fun k => if k = 19 then [7] else []) (RK3 10 17 v1.ownBlock v2.ownBlock g1) (RR3 v1.ownBlock v2.ownBlock g1) (St3 10 17 19 v1.ownBlock v2.ownBlock g1) (FL5 [Is5 (.pointer (some ⟨b1, 0, none⟩)), Is5 (.slice (some ⟨g1, 0, none⟩) 1 1), Is5 (.pointer (some ⟨b2, 0, none⟩)), Is5 (.slice (some ⟨g2, 0, none⟩) 1 1), Is5 (.pointer (some ⟨b1, 0, none⟩)), Is5 (.slice (some ⟨g1, 0, none⟩) 1 1), Is5 (.pointer (some ⟨g1, 0, none⟩)), Is5 (v1), Is5 (.int .i64 (j : Int)), One5 wz.heap.size (j : Int), Row5 v1 wz.heap.size wm.heap.size j, Is5 (.pointer (some ⟨b2, 0, none⟩)), Is5 (.slice (some ⟨g2, 0, none⟩) 1 1), Is5 (.pointer (some ⟨g2, 0, none⟩)), Is5 (v2), Is5 (.int .i64 (j : Int)), One5 wz.heap.size (j : Int), Row6 v2 wz.heap.size wm.heap.size j, Is5 (.pointer (some ⟨g1, 0, none⟩)), Put5 g1]) (by kernel_rfl) (by kernel_rfl) (by kernel_rfl) St3.all (St3.strong (by decide) (by decide) (by decide)) RK3.trans RK3.refl (Fr.refl _) (fun _ _ _ => Fr.trans) (fun _ _ h => h.size) ?_ ⟨?_, ?_, ?_, ?_, ?_, ?_, ?_, ?_, ?_, ?_, ?_, ?_, ?_, ?_, ?_, ?_, ?_, ?_, ?_, ?_, trivial⟩ ?_
          · intro i j v l s t w w' hj hst
            match j, hj with
            | 0, _ => exact fun h => h
            | 1, _ => exact fun h => h
            | 2, _ => exact fun h => h
            | 3, _ => exact fun h => h
            | 4, _ => exact fun h => h
            | 5, _ => exact fun h => h
            | 6, _ => exact fun h => h
            | 7, _ => exact fun h => h
            | 8, _ => exact fun h => h
            | 9, _ => exact fun h => One5.fr (s := s) (t := t) (l := l) HRB.out h (St3.all _ _ _ hst)
            | 10, hj => exact fun h => Row5.fr (s := s) (t := t) (l := l) (E := fun y => v2.ownBlock = some y ∨ y = g1) HRB2.out HN1.out h (RK3.one (k2 := 17) (St3.strong (k1 := 10) (k2 := 17) (k3 := 19) (by decide) (by decide) (by decide) 10 (by simp) _ _ _ (fun e => hj e.symm) hst))
            | 11, _ => exact fun h => h
            | 12, _ => exact fun h => h
            | 13, _ => exact fun h => h
            | 14, _ => exact fun h => h
            | 15, _ => exact fun h => h
            | 16, _ => exact fun h => One5.fr (s := s) (t := t) (l := l) HRB.out h (St3.all _ _ _ hst)
            | 17, hj => exact fun h => Row6.fr (s := s) (t := t) (l := l) (E := fun y => v1.ownBlock = some y ∨ y = g1) HRB1.out HN2.out h (RK3.two (k1 := 10) (k2 := 17) rfl (St3.strong (k1 := 10) (k2 := 17) (k3 := 19) (by decide) (by decide) (by decide) 17 (by simp) _ _ _ (fun e => hj e.symm) hst))
            | 18, _ => exact fun h => h
            | 19, hj => exact fun h => Put5.fr (s := s) (t := t) (l := l) (E := fun y => v1.ownBlock = some y ∨ v2.ownBlock = some y) HNG.out h (RK3.three (k1 := 10) (k2 := 17) (k3 := 19) rfl rfl (St3.strong (k1 := 10) (k2 := 17) (k3 := 19) (by decide) (by decide) (by decide) 19 (by simp) _ _ _ (fun e => hj e.symm) hst))
            | n + 20, _ => exact fun h => h
          · refine opF5_step ?_
            intro ys l0 h0 w' hr hs hf K hK
            clear hf
            clear hs
            simp only [fill, Act.put, dstO, List.take_succ_cons, List.take_zero, List.setIfInBounds_toArray, List.set_cons_zero, List.set_cons_succ, List.getElem?_cons_zero, Nat.zero_add, Nat.reduceAdd] at hK ⊢
            refine OpB.mk' ?_
            go_simp
            exact hK.out _ _ rfl (St3.self rfl rfl rfl (Ext.refl _))
          · refine opF5_step ?_
            intro ys l0 h0 w' hr hs hf K hK
            obtain ⟨f0, -⟩ := hf
            have e0 : ys 0 = _ := f0
            obtain ⟨j0, j1, j2⟩ := HKC.out w' ((Fr.refl _ wz).drew.trans hr)
            clear hs
            simp only [fill, Act.put, dstO, List.take_succ_cons, List.take_zero, List.setIfInBounds_toArray, List.set_cons_zero, List.set_cons_succ, List.getElem?_cons_zero, List.getElem?_cons_succ, Nat.zero_add, Nat.reduceAdd] at hK ⊢
            simp only [e0] at hK ⊢
            clear e0 f0
            refine OpB.mk' ?_
            go_simp
            exact hK.out _ _ rfl (St3.self rfl rfl rfl (Ext.refl _))
          · refine opF5_step ?_
            intro ys l0 h0 w' hr hs hf K hK
            clear hf
            clear hs
            simp only [fill, Act.put, dstO, List.take_succ_cons, List.take_zero, List.setIfInBounds_toArray, List.set_cons_zero, List.set_cons_succ, List.getElem?_cons_zero, List.getElem?_cons_succ, Nat.zero_add, Nat.reduceAdd] at hK ⊢
            refine OpB.mk' ?_
            go_simp
            exact hK.out _ _ rfl (St3.self rfl rfl rfl (Ext.refl _))
          · refine opF5_step ?_
            intro ys l0 h0 w' hr hs hf K hK
            obtain ⟨f0, -⟩ := hf
            have e0 : ys 2 = _ := f0
            obtain ⟨j0, j1, j2⟩ := HKC.out w' ((Fr.refl _ wz).drew.trans hr)
            clear hs
            simp only [fill, Act.put, dstO, List.take_succ_cons, List.take_zero, List.setIfInBounds_toArray, List.set_cons_zero, List.set_cons_succ, List.getElem?_cons_zero, List.getElem?_cons_succ, Nat.zero_add, Nat.reduceAdd] at hK ⊢
            simp only [e0] at hK ⊢
            clear e0 f0
            refine OpB.mk' ?_
            go_simp
            exact hK.out _ _ rfl (St3.self rfl rfl rfl (Ext.refl _))
          · refine opF5_step ?_
            intro ys l0 h0 w' hr hs hf K hK
            clear hf
            clear hs
            simp only [fill, Act.put, dstO, List.take_succ_cons, List.take_zero, List.setIfInBounds_toArray, List.set_cons_zero, List.set_cons_succ, List.getElem?_cons_zero, List.getElem?_cons_succ, Nat.zero_add, Nat.reduceAdd] at hK ⊢
            refine OpB.mk' ?_
            go_simp
            exact hK.out _ _ rfl (St3.self rfl rfl rfl (Ext.refl _))
          · refine opF5_step ?_
            intro ys l0 h0 w' hr hs hf K hK
            obtain ⟨f0, -⟩ := hf
            have e0 : ys 4 = _ := f0
            obtain ⟨j0, j1, j2⟩ := HKC.out w' ((Fr.refl _ wz).drew.trans hr)
            clear hs
            simp only [fill, Act.put, dstO, List.take_succ_cons, List.take_zero, List.setIfInBounds_toArray, List.set_cons_zero, List.set_cons_succ, List.getElem?_cons_zero, List.getElem?_cons_succ, Nat.zero_add, Nat.reduceAdd] at hK ⊢
            simp only [e0] at hK ⊢
            clear e0 f0
            refine OpB.mk' ?_
            go_simp
            exact hK.out _ _ rfl (St3.self rfl rfl rfl (Ext.refl _))
          · refine opF5_step ?_
            intro ys l0 h0 w' hr hs hf K hK
            obtain ⟨f0, -⟩ := hf
            have e0 : ys 5 = _ := f0
            clear hs
            simp only [fill, Act.put, dstO, List.take_succ_cons, List.take_zero, List.setIfInBounds_toArray, List.set_cons_zero, List.set_cons_succ, List.getElem?_cons_zero, List.getElem?_cons_succ, Nat.zero_add, Nat.reduceAdd] at hK ⊢
            simp only [e0] at hK ⊢
            clear e0 f0
            refine OpB.mk' ?_
            go_simp
            exact hK.out _ _ rfl (St3.self rfl rfl rfl (Ext.refl _))
          · refine opF5_step ?_
            intro ys l0 h0 w' hr hs hf K hK
            obtain ⟨f0, -⟩ := hf
            have e0 : ys 6 = _ := f0
            have hg1 := HKG.out w' ((Fr.refl _ wz).drew.trans (RK3.three (k1 := 10) (k2 := 17) (k3 := 19) rfl rfl (hs 19 (by simp) (Or.inr rfl))))
            clear hs
            simp only [fill, Act.put, dstO, List.take_succ_cons, List.take_zero, List.setIfInBounds_toArray, List.set_cons_zero, List.set_cons_succ, List.getElem?_cons_zero, List.getElem?_cons_succ, Nat.zero_add, Nat.reduceAdd] at hK ⊢
            simp only [e0] at hK ⊢
            clear e0 f0
            refine OpB.mk' ?_
            go_simp
            exact hK.out _ _ rfl (St3.self rfl rfl rfl (Ext.refl _))
          · refine opF5_step ?_
            intro ys l0 h0 w' hr hs hf K hK
            clear hf
            clear hs
            simp only [fill, Act.put, dstO, List.take_succ_cons, List.take_zero, List.setIfInBounds_toArray, List.set_cons_zero, List.set_cons_succ, List.getElem?_cons_zero, List.getElem?_cons_succ, Nat.zero_add, Nat.reduceAdd] at hK ⊢
            refine OpB.mk' ?_
            go_simp
            exact hK.out _ _ rfl (St3.self rfl rfl rfl (Ext.refl _))
          · refine opF5_step ?_
            intro ys l0 h0 w' hr hs hf K hK
            obtain ⟨f0, -⟩ := hf
            have e0 : ys 8 = _ := f0
            clear hs
            simp only [fill, Act.put, dstO, List.take_succ_cons, List.take_zero, List.setIfInBounds_toArray, List.set_cons_zero, List.set_cons_succ, List.getElem?_cons_zero, List.getElem?_cons_succ, Nat.zero_add, Nat.reduceAdd] at hK ⊢
            simp only [e0] at hK ⊢
            clear e0 f0
            refine OpB.mk' ?_
            go_simp
            exact hK.out _ _ ⟨_, rfl, by have := hr.size; exact this, heap_new _ _⟩ (St3.self rfl rfl rfl (Ext.alloc (Ext.refl _) _))
          · refine opF5_step ?_
            intro ys l0 h0 w' hr hs hf K hK
            obtain ⟨f0, f1, -⟩ := hf
            have e0 : ys 7 = _ := f0
            obtain ⟨q1, e1, hB1, hq1⟩ := f1
            have hE0 := (Fr.refl (fun y => v2.ownBlock = some y ∨ y = g1) wz).drew.trans (RK3.one (k2 := 17) (hs 10 (by simp) (Or.inl rfl)))
            have hsz := hr.size
            clear hs
            simp only [fill, Act.put, dstO, List.take_succ_cons, List.take_zero, List.setIfInBounds_toArray, List.set_cons_zero, List.set_cons_succ, List.getElem?_cons_zero, List.getElem?_cons_succ, Nat.zero_add, Nat.reduceAdd] at hK ⊢
            simp only [e0, e1] at hK ⊢
            clear e0 e1 f0
            refine OpB.mkG rfl ?_
            refine wp_append_lies _ (.tmp 132) (.tmp 134) 23 rfl wm.heap.size 3 i1 _ 1 8 Tryz.underlying23 HI1.out.1 HI1.out.2.1 HI1.out.2.2.1 HI1.out.2.2.2 rfl (by decide) _ j _ rfl (ownsRow_fr HOA.out hE0 fun y hy => HN1.out y hy) ⟨q1, 0, none⟩ 1 1 [.int .i64 (j : Int)] rfl rfl (one_news2 hq1) (by intro u hu; simp at hu; subst hu; rfl) (by decide) (by unfold maxLen; omega) (by omega) (by have : (wz.drew).heap.size = wz.heap.size := rfl; omega) _ rfl ?_
            intro g4 cap4 w4 ho4 hg4 hor _
            rw [idL_succ] at ho4
            exact hK.out _ _ ⟨g4, cap4, rfl, ho4, hor.imp (fun h => h) (fun h => by have : (wz.drew).heap.size = wz.heap.size := rfl; omega)⟩ (St3.w1 hg4)
          · refine opF5_step ?_
            intro ys l0 h0 w' hr hs hf K hK
            clear hf
            clear hs
            simp only [fill, Act.put, dstO, List.take_succ_cons, List.take_zero, List.setIfInBounds_toArray, List.set_cons_zero, List.set_cons_succ, List.getElem?_cons_zero, List.getElem?_cons_succ, Nat.zero_add, Nat.reduceAdd] at hK ⊢
            refine OpB.mk' ?_
            go_simp
            exact hK.out _ _ rfl (St3.self rfl rfl rfl (Ext.refl _))
          · refine opF5_step ?_
            intro ys l0 h0 w' hr hs hf K hK
            obtain ⟨f0, -⟩ := hf
            have e0 : ys 11 = _ := f0
            obtain ⟨j0, j1, j2⟩ := HKC.out w' ((Fr.refl _ wz).drew.trans hr)
            clear hs
            simp only [fill, Act.put, dstO, List.take_succ_cons, List.take_zero, List.setIfInBounds_toArray, List.set_cons_zero, List.set_cons_succ, List.getElem?_cons_zero, List.getElem?_cons_succ, Nat.zero_add, Nat.reduceAdd] at hK ⊢
            simp only [e0] at hK ⊢
            clear e0 f0
            refine OpB.mk' ?_
            go_simp
            exact hK.out _ _ rfl (St3.self rfl rfl rfl (Ext.refl _))
          · refine opF5_step ?_
            intro ys l0 h0 w' hr hs hf K hK
            obtain ⟨f0, -⟩ := hf
            have e0 : ys 12 = _ := f0
            clear hs
            simp only [fill, Act.put, dstO, List.take_succ_cons, List.take_zero, List.setIfInBounds_toArray, List.set_cons_zero, List.set_cons_succ, List.getElem?_cons_zero, List.getElem?_cons_succ, Nat.zero_add, Nat.reduceAdd] at hK ⊢
            simp only [e0] at hK ⊢
            clear e0 f0
            refine OpB.mk' ?_
            go_simp
            exact hK.out _ _ rfl (St3.self rfl rfl rfl (Ext.refl _))
          · refine opF5_step ?_
            intro ys l0 h0 w' hr hs hf K hK
            obtain ⟨f0, -⟩ := hf
            have e0 : ys 13 = _ := f0
            obtain ⟨j0, j1, j2⟩ := HKC.out w' ((Fr.refl _ wz).drew.trans hr)
            clear hs
            simp only [fill, Act.put, dstO, List.take_succ_cons, List.take_zero, List.setIfInBounds_toArray, List.set_cons_zero, List.set_cons_succ, List.getElem?_cons_zero, List.getElem?_cons_succ, Nat.zero_add, Nat.reduceAdd] at hK ⊢
            simp only [e0] at hK ⊢
            clear e0 f0
            refine OpB.mk' ?_
            go_simp
            exact hK.out _ _ rfl (St3.self rfl rfl rfl (Ext.refl _))
          · refine opF5_step ?_
            intro ys l0 h0 w' hr hs hf K hK
            clear hf
            clear hs
            simp only [fill, Act.put, dstO, List.take_succ_cons, List.take_zero, List.setIfInBounds_toArray, List.set_cons_zero, List.set_cons_succ, List.getElem?_cons_zero, List.getElem?_cons_succ, Nat.zero_add, Nat.reduceAdd] at hK ⊢
            refine OpB.mk' ?_
            go_simp
            exact hK.out _ _ rfl (St3.self rfl rfl rfl (Ext.refl _))
          · refine opF5_step ?_
            intro ys l0 h0 w' hr hs hf K hK
            obtain ⟨f0, -⟩ := hf
            have e0 : ys 15 = _ := f0
            clear hs
            simp only [fill, Act.put, dstO, List.take_succ_cons, List.take_zero, List.setIfInBounds_toArray, List.set_cons_zero, List.set_cons_succ, List.getElem?_cons_zero, List.getElem?_cons_succ, Nat.zero_add, Nat.reduceAdd] at hK ⊢
            simp only [e0] at hK ⊢
            clear e0 f0
            refine OpB.mk' ?_
            go_simp
            exact hK.out _ _ ⟨_, rfl, by have := hr.size; exact this, heap_new _ _⟩ (St3.self rfl rfl rfl (Ext.alloc (Ext.refl _) _))
          · refine opF5_step ?_
            intro ys l0 h0 w' hr hs hf K hK
            obtain ⟨f0, f1, f2, -⟩ := hf
            have e0 : ys 14 = _ := f0
            obtain ⟨q1, e1, hB1, hq1⟩ := f1
            obtain ⟨h10, c10, e2, o10, d10⟩ := f2
            have hE0 := (Fr.refl (fun y => v1.ownBlock = some y ∨ y = g1) wz).drew.trans (RK3.two (k1 := 10) (k2 := 17) rfl (hs 17 (by simp) (Or.inl rfl)))
            have hsz := hr.size
            have hlt10 := (o10.lt h10 (by rw [e2]; rfl)).2
            clear hs
            simp only [fill, Act.put, dstO, List.take_succ_cons, List.take_zero, List.setIfInBounds_toArray, List.set_cons_zero, List.set_cons_succ, List.getElem?_cons_zero, List.getElem?_cons_succ, Nat.zero_add, Nat.reduceAdd] at hK ⊢
            simp only [e0, e1, e2] at hK ⊢
            clear e0 e1 f0
            refine OpB.mkG rfl ?_
            refine wp_append_lies _ (.tmp 139) (.tmp 141) 23 rfl wm.heap.size 3 i1 _ 1 8 Tryz.underlying23 HI1.out.1 HI1.out.2.1 HI1.out.2.2.1 HI1.out.2.2.2 rfl (by decide) _ j _ rfl (ownsRow_fr HOB.out hE0 fun y hy => HN2.out y hy) ⟨q1, 0, none⟩ 1 1 [.int .i64 (j : Int)] rfl rfl (one_news2 hq1) (by intro u hu; simp at hu; subst hu; rfl) (by decide) (by unfold maxLen; omega) (by omega) (by have : (wz.drew).heap.size = wz.heap.size := rfl; omega) _ rfl ?_
            intro g4 cap4 w4 ho4 hg4 hor _
            rw [idL_succ] at ho4
            refine hK.out _ _ ⟨g4, cap4, rfl, ho4, hor.imp (fun h => h) (fun h => by have : (wz.drew).heap.size = wz.heap.size := rfl; omega), ?_⟩ (St3.w2 rfl hg4)
            show (ys 10).ownBlock ≠ some g4
            rw [e2]
            intro e
            obtain rfl : h10 = g4 := Option.some.inj e
            rcases hor with h | h
            · rcases d10 with h' | h'
              · exact HDD.out _ h' h
              · have := HRB.out _ (Or.inr (Or.inl h)); omega
            · omega
          · refine opF5_step ?_
            intro ys l0 h0 w' hr hs hf K hK
            obtain ⟨f0, -⟩ := hf
            have e0 : ys 1 = _ := f0
            clear hs
            simp only [fill, Act.put, dstO, List.take_succ_cons, List.take_zero, List.setIfInBounds_toArray, List.set_cons_zero, List.set_cons_succ, List.getElem?_cons_zero, List.getElem?_cons_succ, Nat.zero_add, Nat.reduceAdd] at hK ⊢
            simp only [e0] at hK ⊢
            clear e0 f0
            refine OpB.mk' ?_
            go_simp
            exact hK.out _ _ rfl (St3.self rfl rfl rfl (Ext.refl _))
          · refine opF5_step ?_
            intro ys l0 h0 w' hr hs hf K hK
            obtain ⟨f0, f1, -⟩ := hf
            have e0 : ys 18 = _ := f0
            obtain ⟨h10, c10, e1, o10, d10⟩ := f1
            have hg1 := HKH.out w' ((Fr.refl _ wz).drew.trans (RK3.three (k1 := 10) (k2 := 17) (k3 := 19) rfl rfl (hs 19 (by simp) (Or.inl rfl))))
            have hgc := cell_of_heap hg1 0
            have hgf := cell_frozen hg1 0
            simp only [List.getElem?_toArray, List.getElem?_cons_zero] at hgc
            clear hs
            simp only [fill, Act.put, dstO, List.take_succ_cons, List.take_zero, List.setIfInBounds_toArray, List.set_cons_zero, List.set_cons_succ, List.getElem?_cons_zero, List.getElem?_cons_succ, Nat.zero_add, Nat.reduceAdd] at hK ⊢
            simp only [e0, e1] at hK ⊢
            clear e0 f0
            refine OpB.mk' ?_
            go_simp
            exact hK.out (.slice (some ⟨h10, 0, none⟩) (j + 1) c10) _ ⟨heap_set hg1 rfl, by show _ = ys 10; exact e1.symm⟩ (St3.w3 rfl rfl ((Fr.refl _ _).set (c := g1) rfl))
          intro ys l0 h0 w2 hr hf hsp
          obtain ⟨f3, f10, f17, f19, -⟩ := hf
          have e3 : ys 3 = _ := f3
          obtain ⟨h10, c10, e10, o10, d10⟩ := f10
          obtain ⟨h17, c17, e17, o17, d17, n17⟩ := f17
          have n17' : (ys 10).ownBlock ≠ some h17 := n17
          obtain ⟨p19, e19⟩ := f19
          have e19' : ys 19 = ys 10 := e19
          simp only [fill, Act.put, List.take_succ_cons, List.take_zero, List.setIfInBounds_toArray, List.set_cons_zero, List.set_cons_succ, Nat.zero_add, Nat.reduceAdd, List.drop_succ_cons, List.drop_zero]
          rw [e3]
          clear e3 f3
          rw [e10] at o10 ⊢
          rw [e10] at n17'
          rw [e17] at o17 ⊢
          rw [e19', e10] at p19
          clear hsp
          have hR : RR3 v1.ownBlock v2.ownBlock g1 wz w2 := (Fr.refl _ wz).drew.trans hr
          have hm2 := HK2.out w2 hR
          have c2 := cell_of_heap hm2 0
          have f2 := cell_frozen hm2 0
          simp only [List.getElem?_toArray, List.getElem?_cons_zero] at c2
          have hst := HI.out.step hR p19 o10 o17 (fun y hy hy2 => n17' (by
            obtain rfl : h10 = y := Option.some.inj hy
            obtain rfl : h17 = h10 := Option.some.inj hy2
            rfl))
          clear hr hR hm2 p19 o10 o17 d10 d17 n17' n17 e19 e19' e10 e17 HKC HKH HKG HK2 HRB HRB1 HRB2 HN1 HN2 HNG HDD HOA HOB
          have HA := Lib.hid (⟨a0, a1, a2, a3⟩ : _ ∧ _ ∧ _ ∧ _)
          clear a0 a1 a2 a3
          go_upto_region 20 with (fail)
          obtain ⟨w20, hw20⟩ : ∃ w20, w20 = w2.setCell ⟨g2, 0, none⟩ (.slice (some ⟨h17, 0, none⟩) (j + 1) c17) := ⟨_, rfl⟩
          rw [← hw20] at hst ⊢
          have HST := Lib.hid hst
          clear hst
          have hEW : Ext W w20 := Fr.ext HEW.out HST.out.fr (fun i hi => by
            have := HG1.out
            have := HTB.out.lt
            have := xk.h.size
            omega)
          have HE20 := Lib.hid hEW
          have k0 : w20.cell? ⟨s0, 0, none⟩ = some (.slice p k c) := HA.out.1 ⟨w20, hEW⟩
          have k1 : w20.cell? ⟨s0, 1, none⟩ = some (.slice q C.extra.length d) := HA.out.2.1 ⟨w20, hEW⟩
          have k2 : w20.cell? ⟨s0, 2, none⟩ = some (.int .i64 C.frm) := HA.out.2.2.1 ⟨w20, hEW⟩
          have k3 : w20.cell? ⟨s0, 3, none⟩ = some (.int .i64 C.tto) := HA.out.2.2.2 ⟨w20, hEW⟩
          obtain ⟨x1, hx1⟩ : ∃ x1, x1 = cutN k lo ((j : Int) + 1) := ⟨_, rfl⟩
          obtain ⟨x2, hx2⟩ : ∃ x2, x2 = cutN k hi ((j : Int) + 1) := ⟨_, rfl⟩
          have hjk : j < k := by omega
          have HCJ := Lib.hid (HCU.out j hjk)
          rw [← hx1, ← hx2] at HCJ
          have HXB := Lib.hid (by
            have h1 := cut_in (P := fun v => 0 ≤ v ∧ v ≤ 999) HBL.out hjk
            have h2 := cut_in (P := fun v => 0 ≤ v ∧ v ≤ 999) HBH.out hjk
            have h3 := top_bound HBL.out j (by omega)
            have h4 := top_bound HBH.out j (by omega)
            rw [← hx1] at h1
            rw [← hx2] at h2
            rw [← HLA.out] at h3
            rw [← HMA.out] at h4
            exact ⟨h1, h2, h3, h4⟩ : (0 ≤ x1 ∧ x1 ≤ 999) ∧ (0 ≤ x2 ∧ x2 ≤ 999) ∧ (0 ≤ la ∧ la ≤ 999 * (j : Int)) ∧ (0 ≤ ma ∧ ma ≤ 999 * (j : Int)))
          have HXS := Lib.hid (by
            have h1 := topSum_succ k lo j
            have h2 := topSum_succ k hi j
            rw [← hx1, ← HLA.out] at h1
            rw [← hx2, ← HMA.out] at h2
            exact ⟨h1, h2⟩ : topSum k lo (j + 1) = la + x1 ∧ topSum k hi (j + 1) = ma + x2)
          have HCP := Lib.hid (Copy06 C _ w20 (HVW.out w20 hEW) HSM.out)
          clear hx1 hx2 hEW hw20 hjk
          go_upto_region 21 with (first
            | (go_at_call 9; refine HCP.out.mono ?_; rintro e W21 ⟨u, gg, cx, rfl, hE21, hG21⟩)
            | (go_at_call 10; refine (HCJ.out W21 (HE20.out.trans hE21) _ _ _ hG21.ch).mono ?_; rintro e W22 ⟨rfl, hE22⟩))
          obtain ⟨s8, hs8⟩ : ∃ s8, s8 = W22.heap.size := ⟨_, rfl⟩
          obtain ⟨W8, hW8⟩ : ∃ W8, W8 = W22.alloc (.cells #[.int .i64 x1, .int .i64 x2] 38) := ⟨_, rfl⟩
          have m8 : W8.heap[s8]? = some (.cells #[.int .i64 x1, .int .i64 x2] 38) := by rw [hW8, hs8]; exact heap_new _ _
          have hE8 : Ext w20 W8 := by rw [hW8]; exact (hE21.trans hE22).alloc _
          rw [← hs8, ← hW8]
          have HE8 := Lib.hid hE8
          have k8 := ExtW.cell (v := .int .i64 x1) (cell_of_heap m8 0)
          have k9 := ExtW.cell (v := .int .i64 x2) (cell_of_heap m8 1)
          obtain ⟨⟨q1, q2⟩, ⟨q3, q4⟩, ⟨q5, q6⟩, ⟨q7, q8⟩⟩ := HXB.out
          have n1 : ¬x1 < 0 := by omega
          have n2 : ¬999 < x2 := by omega
          have hw1 : IntKind.i64.wrap (la + x1) = la + x1 := IntWalk.i64_in _ (by omega)
          have hw2 : IntKind.i64.wrap (ma + x2) = ma + x2 := IntWalk.i64_in _ (by omega)
          have hw3 : IntKind.i64.wrap ((j : Int) + 1) = (j : Int) + 1 := IntWalk.i64_in _ (by omega)
          clear hs8 hW8 m8 hE8 hE21 hE22 hG21 k0 k1 k2 k3 q1 q2 q3 q4 q5 q6 q7 q8 c2 f2
          obtain ⟨z8, hz8⟩ := ExtW.of (Ext.refl W8)
          conv => arg 5; rw [hz8]
          clear hz8
          go_upto_region 23 with (fail)
          refine wp_region_extW (by kernel_rfl) (by kernel_rfl) ?_
          repeat (go_big_quiet_step (fail))
          refine wpQuiet_nil ?_
          rintro _ ⟨z9, rfl⟩
          go_wp2
          exact ⟨⟨j + 1, by omega, by simp, by rw [HXS.out.1], by rw [HXS.out.2], _, _, HST.out.ext (HE8.out.trans z9.h)⟩, by simp [intOf]; omega⟩
        · obtain rfl : j = s := by omega
          obtain ⟨pA, cA, qA, dA, pB, cB, qB, dB, m1, m2, hv1, hv2⟩ := box_both HTB.out HI.out
          rw [← HLO.out] at hv1
          rw [← HHI.out] at hv2
          have hjk : j ≤ k := by omega
          have hk6 : k ≤ 6 := by omega
          have hj3 : j ≤ 3 := by omega
          have hb1 := fun x : ExtW wz => ExtW.callX (x := x) (box_best07 hk6 hj3 hjk HBL.out (Sw7.SwapV.mono _ _ _ _ x.h hv1))
          have hb2 := fun x : ExtW wz => ExtW.callX (x := x) (box_best07 hk6 hj3 hjk HBH.out (Sw7.SwapV.mono _ _ _ _ x.h hv2))
          have hb3 := fun x : ExtW wz => ExtW.callX (x := x) (box_fair07 hk6 hj3 hjk HBL.out (Sw7.SwapV.mono _ _ _ _ x.h hv1))
          have hED : Ext W wz := Fr.ext HEW.out HI.out.fr (fun i hi => by
            have := HG1.out
            have := HTB.out.lt
            have := xk.h.size
            omega)
          rw [← HLA.out] at hb1 hb3
          rw [← HMA.out] at hb2
          have HB1 := Lib.hid hb1
          have HB2 := Lib.hid hb2
          have HB3 := Lib.hid hb3
          have HED := Lib.hid hED
          have HSW := Lib.hid (fun x : ExtW wz => ExtW.callX (x := x) (swapped07 x.w))
          have HA := Lib.hid (⟨a0, a1, a2, a3⟩ : _ ∧ _ ∧ _ ∧ _)
          have y0 := ExtW.cell (v := .slice (some ⟨g1, 0, none⟩) 1 1) (cell_of_heap m1 0)
          have y1 := ExtW.cell (v := .slice pA k cA) (cell_of_heap m1 1)
          have y2 := ExtW.cell (v := .slice qA k dA) (cell_of_heap m1 2)
          have y3 := ExtW.cell (v := .slice none 0 0) (cell_of_heap m1 3)
          have y4 := ExtW.cell (v := .int .i64 (j : Int)) (cell_of_heap m1 4)
          have z0 := ExtW.cell (v := .slice (some ⟨g2, 0, none⟩) 1 1) (cell_of_heap m2 0)
          have z1 := ExtW.cell (v := .slice pB k cB) (cell_of_heap m2 1)
          have z2 := ExtW.cell (v := .slice qB k dB) (cell_of_heap m2 2)
          have z3 := ExtW.cell (v := .slice none 0 0) (cell_of_heap m2 3)
          have z4 := ExtW.cell (v := .int .i64 (j : Int)) (cell_of_heap m2 4)
          clear a0 a1 a2 a3 k0 k1 k2 k3 hb1 hb2 hb3 m1 m2 hv1 hv2 hED hjk hk6 hj3 hlt
          obtain ⟨u0, hu0⟩ := ExtW.of (Ext.refl wz)
          conv => arg 5; rw [hu0]
          clear hu0
          go_upto_region 25 with (go_at_call 11; refine (HB1.out _).mono ?_; rintro e _ ⟨rfl, t1, rfl, -⟩)
          go_upto_region 26 with (go_at_call 11; refine (HB2.out _).mono ?_; rintro e _ ⟨rfl, t2, rfl, -⟩)
          go_upto_region 27 with (go_at_call 12; refine (HB3.out _).mono ?_; rintro e _ ⟨rfl, t3, rfl, -⟩)
          clear y0 y1 y2 y3 y4 z0 z1 z2 z3 z4
          go_wp2_with (go_at_call 7; refine (HSW.out _).mono ?_; rintro e w2 ⟨rfl, xc, rfl, -⟩)
          go_ret
          exact RetE.fin (HE.out.trans (HED.out.trans xc.h)) rfl
end Go.Proofs.YtppncdbhebgcaaaGreatDoor
