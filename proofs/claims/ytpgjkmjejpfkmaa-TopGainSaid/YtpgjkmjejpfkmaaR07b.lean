/- The walks of the reference's IsPlan and DoesFit. -/
import Derived.Test.YtpgjkmjejpfkmaaR07a
import Derived.Test.YtpgjkmjejpfkmaaW07p
namespace Go.Proofs.Ytpgjkmjejpfkmaa
open Go.RowKit

set_option maxHeartbeats 1600000 in
theorem IsPlan07 (v : Value) (S : Swap) (q : Option Addr) (L : List (List Int)) (c : Nat) (w : World) (hv : SwapV w v S) (hM : Modest S) (hq : ListsAt w q L) (hl : L.length ≤ 100000)
    (hr : ∀ i (h : i < L.length), L[i].length ≤ 100000) :
    Calls Try.prog 42 #[v, .slice q L.length c] w (RetE (.bool (bP (IsPlan S L))) w) := by
  obtain ⟨p0, c0, p1, c1, p2, c2, p3, c3, rfl, h0, -⟩ := hv
  have hm := hM.stock
  have HR0 := Lib.hid hr
  clear hr
  go_enter Try.func42, Try.ntmps42
  go_upto_region 1 with (fail)
  have hn := heap_new w (.cells #[.slice p0 S.boxes.length c0, .slice p1 S.stock.length c1, .slice p2 S.earn.length c2, .slice p3 S.keeps.length c3, .int .i64 S.changes] 26)
  obtain ⟨W, hW⟩ : ∃ W, W = w.alloc (.cells #[.slice p0 S.boxes.length c0, .slice p1 S.stock.length c1, .slice p2 S.earn.length c2, .slice p3 S.keeps.length c3, .int .i64 S.changes] 26) := ⟨_, rfl⟩
  have hE : Ext w W := by rw [hW]; exact Ext.alloc (Ext.refl w) _
  rw [← hW] at hn ⊢
  have r0 := ExtW.cell (v := .slice p0 S.boxes.length c0) (cell_of_heap hn 0)
  have r1 := ExtW.cell (v := .slice p1 S.stock.length c1) (cell_of_heap hn 1)
  have kq := hq.ext hE
  have k0 := h0.ext hE
  obtain ⟨x0, hx0⟩ := ExtW.of (Ext.refl W)
  clear hW hn hq h0
  conv => arg 5; rw [hx0]
  by_cases hlen : L.length = S.boxes.length
  · have HLEN := Lib.hid hlen
    have hne : ((L.length : Int) != (S.boxes.length : Int)) = false := by simp [hlen]
    clear hlen
    go_wp2
    go_loopw [5] (fun i wr => ∃ k : Nat, k ≤ L.length ∧ i = .int .i64 k ∧ (∀ j (h : j < L.length), j < k → L[j].length = (S.boxes.getD j []).length ∧ Rises L[j] 0 ((S.stock.length : Int) - 1)) ∧ ∃ x : ExtW W, wr = x.w) (fun i _ => L.length - (intOf i).toNat)
    case atStart => exact ⟨0, by omega, rfl, by first | trivial | (intro j h hj; omega), x0, rfl⟩
    case round =>
      obtain ⟨k, hk, rfl, hr, x, rfl⟩ := hrel
      have HR := Lib.hid hr
      clear hr
      by_cases hlt : k < L.length
      · have hlt2 : k < S.boxes.length := by have := HLEN.out; omega
        obtain ⟨b, o, q', c', rfl, hc, hq'⟩ := kq.at k hlt
        obtain ⟨b2, o2, q2, c2', rfl, hc2, -⟩ := k0.at k hlt2
        have s1 := ExtW.cell hc
        have s2 := ExtW.cell hc2
        have hgd := getD_of_lt S.boxes [] k hlt2
        have hlk := HR0.out k hlt
        have hw : IntKind.i64.wrap ((S.stock.length : Int) - 1) = (S.stock.length : Int) - 1 := IntWalk.i64_in _ (by omega)
        by_cases hll : L[k].length = S.boxes[k].length
        · have hll' : ((L[k].length : Int) != (S.boxes[k].length : Int)) = false := by simp [hll]
          have HLL := Lib.hid hll
          clear hll hc hc2
          have hRC := fun x : ExtW W => Rising01 q' L[k] c' 0 ((S.stock.length : Int) - 1) x.w hlk (hq'.ext x.h)
          by_cases hri : Rises L[k] 0 ((S.stock.length : Int) - 1)
          · have HRC := Lib.hid (fun x : ExtW W => ExtW.call (RetQ.e (RetQ.bt hri (hRC x))))
            have HRI := Lib.hid hri
            have HGD := Lib.hid hgd
            clear hri hRC hgd hq'
            go_upto_region 6 with (fail)
            refine wp_region_extW (by kernel_rfl) (by kernel_rfl) ?_
            repeat (go_big_quiet_step ((go_at_call 77; exact HRC.out _)))
            refine wpQuiet_nil ?_
            rintro _ ⟨x2, rfl⟩
            go_wp2
            go_roundw
            case rel => exact ⟨k + 1, by omega, by go_num, by
              intro j h hj
              by_cases e : j < k
              · exact HR.out j h e
              · obtain rfl : j = k := by omega
                exact ⟨by rw [HGD.out]; exact HLL.out, HRI.out⟩, x2, rfl⟩
            case measure => simp [intOf]; omega
          · have HRC := Lib.hid (fun x : ExtW W => ExtW.call (RetQ.e (RetQ.bf hri (hRC x))))
            have HRI := Lib.hid hri
            clear hri hRC hgd hq'
            go_upto_region 6 with (fail)
            refine wp_region_extW (by kernel_rfl) (by kernel_rfl) ?_
            repeat (go_big_quiet_step ((go_at_call 77; exact HRC.out _)))
            refine wpQuiet_nil ?_
            rintro _ ⟨x2, rfl⟩
            go_wp2
            go_ret
            exact RetE.ff (hE.trans x2.h) (fun h => HRI.out (h.2 k hlt).2)
        · have hll' : ((L[k].length : Int) != (S.boxes[k].length : Int)) = true := by simp; omega
          have HLL := Lib.hid hll
          have HGD := Lib.hid hgd
          clear hll hc hc2 hgd hq'
          go_upto_region 6 with (fail)
          refine wp_region_extW (by kernel_rfl) (by kernel_rfl) ?_
          repeat (go_big_quiet_step (fail))
          refine wpQuiet_nil ?_
          rintro _ ⟨x2, rfl⟩
          go_wp2
          go_ret
          exact RetE.ff (hE.trans x2.h) (fun h => HLL.out (by rw [← HGD.out]; exact (h.2 k hlt).1))
      · obtain rfl : k = L.length := by omega
        go_wp2
        go_ret
        exact RetE.tt (hE.trans x.h) ⟨HLEN.out, fun i h => HR.out i h h⟩
  · have HLEN := Lib.hid hlen
    have hne : ((L.length : Int) != (S.boxes.length : Int)) = true := by simp; omega
    clear hlen
    go_wp2
    go_ret
    exact RetE.ff (hE.trans x0.h) (fun h => HLEN.out h.1)
end Go.Proofs.Ytpgjkmjejpfkmaa
