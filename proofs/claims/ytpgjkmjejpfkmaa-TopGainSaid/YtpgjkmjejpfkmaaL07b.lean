/- The walk of the reference's Check. -/
import Derived.Test.YtpgjkmjejpfkmaaL07a
namespace Go.Proofs.Ytpgjkmjejpfkmaa
open Go.RowKit

set_option maxHeartbeats 1600000 in
theorem rCheck07 (v : Value) (S : Swap) (w : World) (hv : SwapV w v S) (hM : Modest S) : Calls Try.prog 32 #[v] w (RetE (.int .i64 (chk S)) w) := by
  obtain ⟨p0, c0, p1, c1, p2, c2, p3, c3, rfl, h0, h1, h2, h3⟩ := hv
  have m0 := hM.boxes
  have m1 := hM.stock
  have m2 := hM.earn
  have m3 := hM.keeps
  go_enter Try.func32, Try.ntmps32
  go_upto_region 1 with (fail)
  have hn := heap_new w (.cells #[.slice p0 S.boxes.length c0, .slice p1 S.stock.length c1, .slice p2 S.earn.length c2, .slice p3 S.keeps.length c3, .int .i64 S.changes] 26)
  obtain ⟨W, hW⟩ : ∃ W, W = w.alloc (.cells #[.slice p0 S.boxes.length c0, .slice p1 S.stock.length c1, .slice p2 S.earn.length c2, .slice p3 S.keeps.length c3, .int .i64 S.changes] 26) := ⟨_, rfl⟩
  have hE : Ext w W := by rw [hW]; exact Ext.alloc (Ext.refl w) _
  rw [← hW] at hn ⊢
  have q0 := ExtW.cell (v := .slice p0 S.boxes.length c0) (cell_of_heap hn 0)
  have q1 := ExtW.cell (v := .slice p1 S.stock.length c1) (cell_of_heap hn 1)
  have q2 := ExtW.cell (v := .slice p2 S.earn.length c2) (cell_of_heap hn 2)
  have q3 := ExtW.cell (v := .slice p3 S.keeps.length c3) (cell_of_heap hn 3)
  have q4 := ExtW.cell (v := .int .i64 S.changes) (cell_of_heap hn 4)
  obtain ⟨x0, hx0⟩ := ExtW.of (Ext.refl W)
  clear hW hn
  have k0 := h0.ext hE
  have k1 := h1.ext hE
  have k2 := h2.ext hE
  have k3 := h3.ext hE
  clear h0 h1 h2 h3
  conv => arg 5; rw [hx0]
  go_upto_region 2 with (fail)
  by_cases hA : 3 < S.boxes.length
  · go_wp2
    go_ret
    exact RetE.fin (hE.trans x0.h) (chk_70 (fun h => by have := h.boxes; omega) rfl)
  by_cases hB : 6 < S.stock.length
  · go_wp2
    go_ret
    exact RetE.fin (hE.trans x0.h) (chk_70 (fun h => by have := h.stock; omega) rfl)
  by_cases hC : S.earn.length = S.stock.length
  case neg =>
    have HC := Lib.hid hC
    have hC' : ((S.earn.length : Int) != (S.stock.length : Int)) = true := by simp; omega
    clear hC
    go_wp2
    go_ret
    exact RetE.fin (hE.trans x0.h) (chk_70 (fun h => HC.out h.earn) rfl)
  have HC := Lib.hid hC
  have hC' : ((S.earn.length : Int) != (S.stock.length : Int)) = false := by simp [hC]
  clear hC
  by_cases hD : 4 < S.keeps.length
  · go_wp2
    go_ret
    exact RetE.fin (hE.trans x0.h) (chk_70 (fun h => by have := h.keeps; omega) rfl)
  by_cases hG : 0 ≤ S.changes ∧ S.changes ≤ 3
  case neg =>
    have HG := Lib.hid hG
    have HGC := Lib.hid (RetQ.bf hG (rwithin07 S.changes 0 3 x0.w))
    clear hG
    go_wp2_with (go_at_call 61; refine HGC.out.mono ?_; rintro e w' ⟨rfl, m, rfl⟩)
    go_ret
    exact RetE.fin ((hE.trans x0.h).trans (Qt.ext (by repeat (first | exact Qt.refl _ | assumption | refine Qt.drewN ?_ _ | refine Qt.drew ?_)))) (chk_70 (fun h => HG.out h.ch) rfl)
  have HG := Lib.hid hG
  have HGC := Lib.hid (ExtW.call (RetQ.e (RetQ.bt hG (rwithin07 S.changes 0 3 x0.w))))
  clear hG
  go_wp2_with (go_at_call 61; refine HGC.out.mono ?_; rintro e w' ⟨rfl, x1, rfl⟩)
  go_loopw [4] (fun i wr => ∃ k : Nat, k ≤ S.boxes.length ∧ i = .int .i64 k ∧ (∀ j (h : j < S.boxes.length), j < k → S.boxes[j].length ≤ 3 ∧ Rises S.boxes[j] 0 ((S.stock.length : Int) - 1)) ∧ ∃ x : ExtW W, wr = x.w) (fun i _ => S.boxes.length - (intOf i).toNat)
  case atStart => exact ⟨0, by omega, rfl, by first | trivial | (intro j h hj; omega), x1, rfl⟩
  case round =>
    obtain ⟨k, hk, rfl, hr, x, rfl⟩ := hrel
    have HR := Lib.hid hr
    clear hr
    by_cases hlt : k < S.boxes.length
    · obtain ⟨b, o, q, c, rfl, hc, hq⟩ := (k0.ext x.h).at k hlt
      have hlk := hM.box k hlt
      by_cases h3l : 3 < S.boxes[k].length
      · go_wp2
        go_ret
        exact RetE.fin (hE.trans x.h) (chk_70 (fun h => by have := (h.box k hlt).1; omega) rfl)
      · have hRC := Rising01 q S.boxes[k] c 0 ((S.stock.length : Int) - 1) x.w hlk hq
        by_cases hri : Rises S.boxes[k] 0 ((S.stock.length : Int) - 1)
        · have HRC := Lib.hid (ExtW.call (RetQ.e (RetQ.bt hri hRC)))
          have HRI := Lib.hid hri
          have H3 := Lib.hid h3l
          clear hri hRC
          go_wp2_with (go_at_call 77; refine HRC.out.mono ?_; rintro e w' ⟨rfl, x2, rfl⟩)
          go_roundw
          case rel => exact ⟨k + 1, by omega, by go_num, by
            intro j h hj
            by_cases e : j < k
            · exact HR.out j h e
            · obtain rfl : j = k := by omega
              exact ⟨by have := H3.out; omega, HRI.out⟩, x2, rfl⟩
          case measure => simp [intOf]; omega
        · have HRC := Lib.hid (ExtW.call (RetQ.e (RetQ.bf hri hRC)))
          have HRI := Lib.hid hri
          clear hri hRC
          go_wp2_with (go_at_call 77; refine HRC.out.mono ?_; rintro e w' ⟨rfl, x2, rfl⟩)
          go_ret
          exact RetE.fin (hE.trans x2.h) (chk_70 (fun h => HRI.out (h.box k hlt).2) rfl)
    · obtain rfl : k = S.boxes.length := by omega
      have HBOX := Lib.hid (fun j h => HR.out j h h)
      go_wp2
      go_loopw [5] (fun i wr => ∃ k : Nat, k ≤ S.stock.length ∧ i = .int .i64 k ∧ (∀ j (h : j < S.stock.length) (h' : j < S.earn.length), j < k → (0 ≤ S.stock[j] ∧ S.stock[j] ≤ 9) ∧ S.earn[j].length = S.boxes.length ∧ ∀ i (hi : i < S.earn[j].length), 0 ≤ S.earn[j][i] ∧ S.earn[j][i] ≤ 999) ∧ ∃ x : ExtW W, wr = x.w) (fun i _ => S.stock.length - (intOf i).toNat)
      case atStart => exact ⟨0, by omega, rfl, by first | trivial | (intro j h h' hj; omega), x, rfl⟩
      case round =>
        clear x HR
        obtain ⟨k, hk, rfl, hr, x, rfl⟩ := hrel
        have HR := Lib.hid hr
        clear hr
        by_cases hlt : k < S.stock.length
        · have hlt2 : k < S.earn.length := by have := HC.out; omega
          obtain ⟨b, o, rfl, hc⟩ := k1.at k hlt
          obtain ⟨b2, o2, q, c, rfl, hc2, hq⟩ := k2.at k hlt2
          have rc1 := ExtW.cell hc
          have rc2 := ExtW.cell hc2
          have hlk := hM.row k hlt2
          by_cases hst : 0 ≤ S.stock[k] ∧ S.stock[k] ≤ 9
          · have HST := Lib.hid hst
            have HW1 := Lib.hid (fun (y : ExtW W) => ExtW.call (RetQ.e (RetQ.bt hst (rwithin07 S.stock[k] 0 9 y.w))))
            clear hst hc hc2
            by_cases hll : S.earn[k].length = S.boxes.length
            · have HLL := Lib.hid hll
              have hll' : ((S.earn[k].length : Int) != (S.boxes.length : Int)) = false := by simp [hll]
              have hll2 : S.boxes.length ≤ S.earn[k].length := by omega
              clear hll
              go_upto_region 12 with (fail)
              refine wp_region_extW (by kernel_rfl) (by kernel_rfl) ?_
              repeat (go_big_quiet_step ((go_at_call 61; exact HW1.out _)))
              refine wpQuiet_nil ?_
              rintro _ ⟨x2, rfl⟩
              obtain ⟨kk, hkk⟩ : ∃ kk, kk = k := ⟨_, rfl⟩
              go_wp2
              go_loopw [6] (fun i wr => ∃ m : Nat, m ≤ S.boxes.length ∧ i = .int .i64 m ∧ (∀ i (hi : i < S.earn[k].length), i < m → 0 ≤ S.earn[k][i] ∧ S.earn[k][i] ≤ 999) ∧ ∃ x : ExtW W, wr = x.w) (fun i _ => S.boxes.length - (intOf i).toNat)
              case atStart => exact ⟨0, by omega, rfl, by first | trivial | (intro j h hj; omega), x2, rfl⟩
              case round =>
                clear x2 x
                obtain ⟨m, hm, rfl, hr3, x, rfl⟩ := hrel
                have HR3 := Lib.hid hr3
                clear hr3
                by_cases hlm : m < S.boxes.length
                · have hlm2 : m < S.earn[k].length := by omega
                  obtain ⟨b3, o3, rfl, hc3⟩ := hq.at m hlm2
                  have rc3 := ExtW.cell hc3
                  by_cases hce : 0 ≤ S.earn[k][m] ∧ S.earn[k][m] ≤ 999
                  · have HCE := Lib.hid hce
                    have HW3 := Lib.hid (ExtW.call (RetQ.e (RetQ.bt hce (rwithin07 S.earn[k][m] 0 999 x.w))))
                    clear hce hc3
                    go_wp2_with (go_at_call 61; refine HW3.out.mono ?_; rintro e w' ⟨rfl, x3, rfl⟩)
                    go_roundw
                    case rel => exact ⟨m + 1, by omega, by go_num, by
                      intro j h hj
                      by_cases e : j < m
                      · exact HR3.out j h e
                      · obtain rfl : j = m := by omega
                        exact HCE.out, x3, rfl⟩
                    case measure => simp [intOf]; omega
                  · have HCE := Lib.hid hce
                    have HW3 := Lib.hid (ExtW.call (RetQ.e (RetQ.bf hce (rwithin07 S.earn[k][m] 0 999 x.w))))
                    clear hce hc3
                    go_wp2_with (go_at_call 61; refine HW3.out.mono ?_; rintro e w' ⟨rfl, x3, rfl⟩)
                    go_ret
                    exact RetE.fin (hE.trans x3.h) (chk_70 (fun h => HCE.out (h.cell k hlt2 m hlm2)) rfl)
                · obtain rfl : m = S.boxes.length := by omega
                  go_wp2
                  go_roundw
                  case rel => exact ⟨k + 1, by omega, by go_num, by
                    intro j h h' hj
                    by_cases e : j < k
                    · exact HR.out j h h' e
                    · obtain rfl : j = k := by omega
                      exact ⟨HST.out, HLL.out, fun i hi => HR3.out i hi (by have := HLL.out; omega)⟩, x, rfl⟩
                  case measure => simp [intOf]; omega
            · have HLL := Lib.hid hll
              have hll' : ((S.earn[k].length : Int) != (S.boxes.length : Int)) = true := by simp; omega
              clear hll
              go_upto_region 12 with (fail)
              refine wp_region_extW (by kernel_rfl) (by kernel_rfl) ?_
              repeat (go_big_quiet_step ((go_at_call 61; exact HW1.out _)))
              refine wpQuiet_nil ?_
              rintro _ ⟨x2, rfl⟩
              go_wp2
              go_ret
              exact RetE.fin (hE.trans x2.h) (chk_70 (fun h => HLL.out (h.row k hlt2)) rfl)
          · have HST := Lib.hid hst
            have HW1 := Lib.hid (fun (y : ExtW W) => ExtW.call (RetQ.e (RetQ.bf hst (rwithin07 S.stock[k] 0 9 y.w))))
            clear hst hc hc2
            go_upto_region 12 with (fail)
            refine wp_region_extW (by kernel_rfl) (by kernel_rfl) ?_
            repeat (go_big_quiet_step ((go_at_call 61; exact HW1.out _)))
            refine wpQuiet_nil ?_
            rintro _ ⟨x2, rfl⟩
            go_wp2
            go_ret
            exact RetE.fin (hE.trans x2.h) (chk_70 (fun h => HST.out (h.st k hlt)) rfl)
        · obtain rfl : k = S.stock.length := by omega
          have HTI := Lib.hid (fun j h h' => HR.out j h h' h)
          go_wp2
          go_loopw [7] (fun i wr => ∃ k : Nat, k ≤ S.keeps.length ∧ i = .int .i64 k ∧ (∀ j (h : j < S.keeps.length), j < k → 0 ≤ S.keeps[j].1 ∧ S.keeps[j].1 ≤ (S.boxes.length : Int) - 1 ∧ S.keeps[j].2 ∈ S.boxes.getD S.keeps[j].1.toNat []) ∧ ∃ x : ExtW W, wr = x.w) (fun i _ => S.keeps.length - (intOf i).toNat)
          case atStart => exact ⟨0, by omega, rfl, by first | trivial | (intro j h hj; omega), x, rfl⟩
          case round =>
            clear x HR
            obtain ⟨k, hk, rfl, hr, x, rfl⟩ := hrel
            have HR := Lib.hid hr
            clear hr
            by_cases hlt : k < S.keeps.length
            · obtain ⟨b, o, rfl, hc1, hc2⟩ := k3.at k hlt
              have rc1 := ExtW.cell hc1
              have rc2 := ExtW.cell hc2
              obtain ⟨K, hK⟩ : ∃ K, K = S.keeps[k] := ⟨_, rfl⟩
              rw [← hK] at rc1 rc2
              have HK := Lib.hid hK
              clear hK hc1 hc2
              go_upto_region 23 with (fail)
              have hn2 := heap_new x.w (.cells #[.int .i64 K.1, .int .i64 K.2] 45)
              obtain ⟨W2, hW2⟩ : ∃ W2, W2 = x.w.alloc (.cells #[.int .i64 K.1, .int .i64 K.2] 45) := ⟨_, rfl⟩
              have hE2 : Ext x.w W2 := by rw [hW2]; exact Ext.alloc (Ext.refl _) _
              rw [← hW2] at hn2 ⊢
              have n0 := ExtW.cell (v := .int .i64 K.1) (cell_of_heap hn2 0)
              have n1 := ExtW.cell (v := .int .i64 K.2) (cell_of_heap hn2 1)
              have u0 := ExtW.cell (hE2.cell (q0 x))
              have hW0 := x.h.trans hE2
              clear hW2 hn2
              by_cases hk1 : 0 ≤ K.1 ∧ K.1 ≤ (S.boxes.length : Int) - 1
              · obtain ⟨kb, hkb⟩ := Int.eq_ofNat_of_zero_le hk1.1
                have hkl : kb < S.boxes.length := by omega
                obtain ⟨b4, o4, q, c, rfl, hc4, hq⟩ := k0.at kb hkl
                have r4 := ExtW.cell (hW0.cell hc4)
                have hlb := hM.box kb hkl
                have hgd : S.boxes.getD K.1.toNat [] = S.boxes[kb] := by rw [hkb, Int.toNat_natCast, getD_of_lt _ _ _ hkl]
                have HK1 := Lib.hid hk1
                rw [hkb] at n0 hk1
                have HGD := Lib.hid hgd
                have HW1 := Lib.hid (fun (y : ExtW W2) => ExtW.call (RetQ.e (RetQ.bt hk1 (rwithin07 kb 0 ((S.boxes.length : Int) - 1) y.w))))
                by_cases hin : K.2 ∈ S.boxes[kb]
                · have HIN := Lib.hid hin
                  have HW3 := Lib.hid (fun (y : ExtW W2) => ExtW.call (RetQ.e (RetQ.bt hin (rin07 q S.boxes[kb] c K.2 y.w hlb (hq.ext (hW0.trans y.h))))))
                  have HKB := Lib.hid hkb
                  clear hk1 hkb hgd hin hc4 HK1
                  refine wp_region_ext (by kernel_rfl) (by kernel_rfl) ?_
                  repeat (go_big_quiet_step ((first | (go_at_call 61; exact HW1.out _) | (go_at_call 78; exact HW3.out _))))
                  refine wpQuiet_nil ?_
                  rintro _ ⟨y1, rfl⟩
                  go_wp2
                  go_roundw
                  case rel => exact ⟨k + 1, by omega, by go_num, by
                    intro j h hj
                    by_cases e : j < k
                    · exact HR.out j h e
                    · obtain rfl : j = k := by omega
                      rw [← HK.out, HGD.out]
                      have := HKB.out
                      exact ⟨by omega, by omega, HIN.out⟩, ⟨y1.w, hW0.trans y1.h⟩, rfl⟩
                  case measure => simp [intOf]; omega
                · have HIN := Lib.hid hin
                  have HW3 := Lib.hid (fun (y : ExtW W2) => ExtW.call (RetQ.e (RetQ.bf hin (rin07 q S.boxes[kb] c K.2 y.w hlb (hq.ext (hW0.trans y.h))))))
                  have HKB := Lib.hid hkb
                  clear hk1 hkb hgd hin hc4 HK1
                  refine wp_region_ext (by kernel_rfl) (by kernel_rfl) ?_
                  repeat (go_big_quiet_step ((first | (go_at_call 61; exact HW1.out _) | (go_at_call 78; exact HW3.out _))))
                  refine wpQuiet_nil ?_
                  rintro _ ⟨y1, rfl⟩
                  go_wp2
                  go_ret
                  exact RetE.fin ((hE.trans hW0).trans y1.h) (chk_70 (fun h => HIN.out (by have := (h.keep k hlt).2.2; rw [← HK.out, HGD.out] at this; exact this)) rfl)
              · have HK1 := Lib.hid hk1
                have HW1 := Lib.hid (fun (y : ExtW W2) => ExtW.call (RetQ.e (RetQ.bf hk1 (rwithin07 K.1 0 ((S.boxes.length : Int) - 1) y.w))))
                clear hk1
                refine wp_region_ext (by kernel_rfl) (by kernel_rfl) ?_
                repeat (go_big_quiet_step ((go_at_call 61; exact HW1.out _)))
                refine wpQuiet_nil ?_
                rintro _ ⟨y1, rfl⟩
                go_wp2
                go_ret
                exact RetE.fin ((hE.trans hW0).trans y1.h) (chk_70 (fun h => HK1.out (by have := h.keep k hlt; rw [← HK.out] at this; exact ⟨this.1, this.2.1⟩)) rfl)
            · obtain rfl : k = S.keeps.length := by omega
              go_wp2
              go_ret
              refine RetE.fin (hE.trans x.h) (chk_0 ?_ rfl)
              exact ⟨by omega, by omega, HC.out, by omega, HG.out, HBOX.out, fun i h => (HTI.out i h (by have := HC.out; omega)).1, fun i h => (HTI.out i (by have := HC.out; omega) h).2.1, fun i h k hk => (HTI.out i (by have := HC.out; omega) h).2.2 k hk, fun i h => HR.out i h h⟩
end Go.Proofs.Ytpgjkmjejpfkmaa
