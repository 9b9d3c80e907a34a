/- The walk of the reference's DoesFit. -/
import Derived.Test.YtpgjkmjejpfkmaaR07b
namespace Go.Proofs.Ytpgjkmjejpfkmaa
open Go.RowKit

/-- a plan fits, as the document says it -/
structure FitP (S : Swap) (L : List (List Int)) : Prop where
  ch : ∀ j (h : j < L.length), (chOf (S.boxes.getD j []) L[j] : Int) ≤ S.changes
  keep : ∀ j (h : j < S.keeps.length), S.keeps[j].2 ∈ L.getD S.keeps[j].1.toNat []
  cnt : ∀ t (h : t < S.stock.length), (cntL L t : Int) ≤ S.stock[t] + cntL S.boxes t

set_option maxRecDepth 100000 in
set_option maxHeartbeats 1600000 in
theorem DoesFit07e (v : Value) (S : Swap) (q : Option Addr) (L : List (List Int)) (c : Nat) (w : World) (hv : SwapV w v S) (hS : ValidE S) (hq : ListsAt w q L) (hlen : L.length = S.boxes.length)
    (hr : ∀ i (h : i < L.length), L[i].length ≤ 100) :
    Calls Try.prog 43 #[v, .slice q L.length c] w (RetE (.bool (bP (FitP S L))) w) := by
  obtain ⟨p0, c0, p1, c1, p2, c2, p3, c3, rfl, h0, h1, h2, h3⟩ := hv
  have hb3 := hS.boxes
  have hs6 := hS.stock
  have hk4 := hS.keeps
  have HS := Lib.hid hS
  have HR0 := Lib.hid hr
  have HLEN := Lib.hid hlen
  have hl3 : L.length ≤ 3 := by omega
  clear hr hS hlen h2
  go_enter Try.func43, Try.ntmps43
  go_upto_region 1 with (fail)
  have hn := heap_new w (.cells #[.slice p0 S.boxes.length c0, .slice p1 S.stock.length c1, .slice p2 S.earn.length c2, .slice p3 S.keeps.length c3, .int .i64 S.changes] 26)
  obtain ⟨W, hW⟩ : ∃ W, W = w.alloc (.cells #[.slice p0 S.boxes.length c0, .slice p1 S.stock.length c1, .slice p2 S.earn.length c2, .slice p3 S.keeps.length c3, .int .i64 S.changes] 26) := ⟨_, rfl⟩
  have hE : Ext w W := by rw [hW]; exact Ext.alloc (Ext.refl w) _
  rw [← hW] at hn ⊢
  have r0 := ExtW.cell (v := .slice p0 S.boxes.length c0) (cell_of_heap hn 0)
  have r1 := ExtW.cell (v := .slice p1 S.stock.length c1) (cell_of_heap hn 1)
  have r3 := ExtW.cell (v := .slice p3 S.keeps.length c3) (cell_of_heap hn 3)
  have r4 := ExtW.cell (v := .int .i64 S.changes) (cell_of_heap hn 4)
  have kq := hq.ext hE
  have k0 := h0.ext hE
  have k1 := h1.ext hE
  have k3 := h3.ext hE
  obtain ⟨x0, hx0⟩ := ExtW.of (Ext.refl W)
  clear hW hn hq h0 h1 h3
  conv => arg 5; rw [hx0]
  go_wp2
  go_loopw [5] (fun i wr => ∃ k : Nat, k ≤ L.length ∧ i = .int .i64 k ∧ (∀ j (h : j < L.length), j < k → (chOf (S.boxes.getD j []) L[j] : Int) ≤ S.changes) ∧ ∃ x : ExtW W, wr = x.w) (fun i _ => L.length - (intOf i).toNat)
  case atStart => exact ⟨0, by omega, rfl, by first | trivial | (intro j h hj; omega), x0, rfl⟩
  case round =>
    obtain ⟨k, hk, rfl, hr, x, rfl⟩ := hrel
    have HR := Lib.hid hr
    clear hr
    by_cases hlt : k < L.length
    · have hlt2 : k < S.boxes.length := by have := HLEN.out; omega
      obtain ⟨b, o, q', c', rfl, hc, hq'⟩ := kq.at k hlt
      obtain ⟨b2, o2, q2, c2', rfl, hc2, hq2⟩ := k0.at k hlt2
      have s1 := ExtW.cell hc
      have s2 := ExtW.cell hc2
      have hgd := getD_of_lt S.boxes [] k hlt2
      have hlk := HR0.out k hlt
      have hbk := (HS.out.box k hlt2).1
      have HCC := Lib.hid (fun x : ExtW W => ExtW.call (RetQ.e (ChangesOf07 q2 q' S.boxes[k] L[k] c2' c' x.w (by omega) (by omega) (hq2.ext x.h) (hq'.ext x.h))))
      obtain ⟨n1, hn1⟩ : ∃ n, n = S.boxes[k].length := ⟨_, rfl⟩
      obtain ⟨n2, hn2⟩ : ∃ n, n = L[k].length := ⟨_, rfl⟩
      obtain ⟨z, hz⟩ : ∃ z, z = chOf S.boxes[k] L[k] := ⟨_, rfl⟩
      rw [← hn1, ← hn2, ← hz] at HCC
      rw [← hn2] at s1
      rw [← hn1] at s2
      have HZ := Lib.hid hz
      have HGD := Lib.hid hgd
      clear hc hc2 hn1 hn2 hgd hz hq' hq2 hlk hbk
      by_cases hle : (z : Int) ≤ S.changes
      · have hd : decide (S.changes < (z : Int)) = false := by simp; omega
        have HLE := Lib.hid hle
        clear hle
        go_upto_region 4 with (fail)
        refine wp_region_extW (by kernel_rfl) (by kernel_rfl) ?_
        repeat (go_big_quiet_step ((go_at_call 83; exact HCC.out _)))
        refine wpQuiet_nil ?_
        rintro _ ⟨x2, rfl⟩
        go_wp2
        go_roundw
        case rel => exact ⟨k + 1, by omega, by go_num, by
          intro j h hj
          by_cases e : j < k
          · exact HR.out j h e
          · obtain rfl : j = k := by omega
            rw [HGD.out, ← HZ.out]; exact HLE.out, x2, rfl⟩
        case measure => simp [intOf]; omega
      · have hd : decide (S.changes < (z : Int)) = true := by simp; omega
        have HLE := Lib.hid hle
        clear hle
        go_upto_region 4 with (fail)
        refine wp_region_extW (by kernel_rfl) (by kernel_rfl) ?_
        repeat (go_big_quiet_step ((go_at_call 83; exact HCC.out _)))
        refine wpQuiet_nil ?_
        rintro _ ⟨x2, rfl⟩
        go_wp2
        go_ret
        exact RetE.ff (hE.trans x2.h) (fun h => by have := h.ch k hlt; rw [HGD.out, ← HZ.out] at this; have := HLE.out; omega)
    · obtain rfl : k = L.length := by omega
      have HCH := Lib.hid (fun j (h : j < L.length) => HR.out j h h)
      clear HR
      go_wp2
      go_loopw [6] (fun i wr => ∃ k : Nat, k ≤ S.keeps.length ∧ i = .int .i64 k ∧ (∀ j (h : j < S.keeps.length), j < k → S.keeps[j].2 ∈ L.getD S.keeps[j].1.toNat []) ∧ ∃ x : ExtW W, wr = x.w) (fun i _ => S.keeps.length - (intOf i).toNat)
      case atStart => exact ⟨0, by omega, rfl, by first | trivial | (intro j h hj; omega), x, rfl⟩
      case round =>
        clear x
        obtain ⟨k, hk, rfl, hr, x, rfl⟩ := hrel
        have HR := Lib.hid hr
        clear hr
        by_cases hlt : k < S.keeps.length
        · obtain ⟨b, o, rfl, hc, hc2⟩ := k3.at k hlt
          obtain ⟨f1, f2, -⟩ := HS.out.keep k hlt
          have s1 := ExtW.cell hc
          have s2 := ExtW.cell hc2
          obtain ⟨bx, hbx⟩ : ∃ n, n = S.keeps[k].1 := ⟨_, rfl⟩
          obtain ⟨tt, htt⟩ : ∃ n, n = S.keeps[k].2 := ⟨_, rfl⟩
          rw [← hbx] at s1 f1 f2
          rw [← htt] at s2
          obtain ⟨bn, rfl⟩ := Int.eq_ofNat_of_zero_le f1
          have hbl : bn < L.length := by have := HLEN.out; omega
          obtain ⟨b3, o3, q', c', rfl, hc3, hq'⟩ := kq.at bn hbl
          have s3 := ExtW.cell hc3
          have hlk := HR0.out bn hbl
          have hgd := getD_of_lt L [] bn hbl
          have hIn := fun x : ExtW W => rin07 q' L[bn] c' tt x.w (by omega) (hq'.ext x.h)
          obtain ⟨n2, hn2⟩ : ∃ n, n = L[bn].length := ⟨_, rfl⟩
          rw [← hn2] at s3
          rw [← hn2] at hIn
          have HBX := Lib.hid hbx
          have HTT := Lib.hid htt
          have HGD := Lib.hid hgd
          clear hc hc2 hc3 hbx htt hgd hlk hn2 hq'
          by_cases hin : tt ∈ L[bn]
          · have HC2 := Lib.hid (fun x => ExtW.call (RetQ.e (RetQ.bt hin (hIn x))))
            have HIN := Lib.hid hin
            clear hIn hin
            go_upto_region 9 with (fail)
            refine wp_region_extW (by kernel_rfl) (by kernel_rfl) ?_
            repeat (go_big_quiet_step ((go_at_call 78; exact HC2.out _)))
            refine wpQuiet_nil ?_
            rintro _ ⟨x2, rfl⟩
            go_wp2
            go_roundw
            case rel => exact ⟨k + 1, by omega, by go_num, by
              intro j h hj
              by_cases e : j < k
              · exact HR.out j h e
              · obtain rfl : j = k := by omega
                rw [← HBX.out, ← HTT.out, Int.toNat_natCast, HGD.out]; exact HIN.out, x2, rfl⟩
            case measure => simp [intOf]; omega
          · have HC2 := Lib.hid (fun x => ExtW.call (RetQ.e (RetQ.bf hin (hIn x))))
            have HIN := Lib.hid hin
            clear hIn hin
            go_upto_region 9 with (fail)
            refine wp_region_extW (by kernel_rfl) (by kernel_rfl) ?_
            repeat (go_big_quiet_step ((go_at_call 78; exact HC2.out _)))
            refine wpQuiet_nil ?_
            rintro _ ⟨x2, rfl⟩
            go_wp2
            go_ret
            exact RetE.ff (hE.trans x2.h) (fun h => HIN.out (by have := h.keep k hlt; rw [← HBX.out, ← HTT.out, Int.toNat_natCast, HGD.out] at this; exact this))
        · obtain rfl : k = S.keeps.length := by omega
          have HKE := Lib.hid (fun j (h : j < S.keeps.length) => HR.out j h h)
          clear HR
          go_wp2
          go_loopw [7] (fun i wr => ∃ k : Nat, k ≤ S.stock.length ∧ i = .int .i64 k ∧ (∀ t (h : t < S.stock.length), t < k → (cntL L t : Int) ≤ S.stock[t] + cntL S.boxes t) ∧ ∃ x : ExtW W, wr = x.w) (fun i _ => S.stock.length - (intOf i).toNat)
          case atStart => exact ⟨0, by omega, rfl, by first | trivial | (intro j h hj; omega), x, rfl⟩
          case round =>
            clear x
            obtain ⟨k, hk, rfl, hr, x, rfl⟩ := hrel
            have HR := Lib.hid hr
            clear hr
            by_cases hlt : k < S.stock.length
            · obtain ⟨b, o, rfl, hc⟩ := k1.at k hlt
              have s1 := ExtW.cell hc
              have hst := HS.out.st k hlt
              have HA := Lib.hid (fun x : ExtW W => ExtW.call (RetQ.e (count07 q L c k x.w (by omega) (fun i h => by have := HR0.out i h; omega) (kq.ext x.h))))
              have HB := Lib.hid (fun x : ExtW W => ExtW.call (RetQ.e (count07 p0 S.boxes c0 k x.w (by omega) (fun i h => by have := (HS.out.box i h).1; omega) (k0.ext x.h))))
              have g1 := cntL_le L k
              have g2 := cntL_le S.boxes k
              obtain ⟨y, hy⟩ : ∃ y, y = S.stock[k] := ⟨_, rfl⟩
              obtain ⟨z1, hz1⟩ : ∃ z, z = cntL L k := ⟨_, rfl⟩
              obtain ⟨z2, hz2⟩ : ∃ z, z = cntL S.boxes k := ⟨_, rfl⟩
              rw [← hz1] at HA g1
              rw [← hz2] at HB g2
              rw [← hy] at s1 hst
              have HZ1 := Lib.hid hz1
              have HZ2 := Lib.hid hz2
              have HY := Lib.hid hy
              have hw : IntKind.i64.wrap (y + (z2 : Int)) = y + (z2 : Int) := IntWalk.i64_in _ (by omega)
              obtain ⟨n2, hn2⟩ : ∃ n, n = L.length := ⟨_, rfl⟩
              obtain ⟨n1, hn1⟩ : ∃ n, n = S.boxes.length := ⟨_, rfl⟩
              clear hc hz1 hz2 hy hst
              by_cases hle : (z1 : Int) ≤ y + z2
              · have hd : decide (y + (z2 : Int) < (z1 : Int)) = false := by simp; omega
                have HLE := Lib.hid hle
                clear hle
                go_upto_region 14 with (fail)
                refine wp_region_extW (by kernel_rfl) (by kernel_rfl) ?_
                repeat (go_big_quiet_step (first | (go_at_call 84; with_reducible exact HA.out _) | (go_at_call 84; with_reducible exact HB.out _)))
                refine wpQuiet_nil ?_
                rintro _ ⟨x2, rfl⟩
                go_wp2
                go_roundw
                case rel => exact ⟨k + 1, by omega, by go_num, by
                  intro j h hj
                  by_cases e : j < k
                  · exact HR.out j h e
                  · obtain rfl : j = k := by omega
                    rw [← HZ1.out, ← HZ2.out, ← HY.out]; exact HLE.out, x2, rfl⟩
                case measure => simp [intOf]; omega
              · have hd : decide (y + (z2 : Int) < (z1 : Int)) = true := by simp; omega
                have HLE := Lib.hid hle
                clear hle
                go_upto_region 14 with (fail)
                refine wp_region_extW (by kernel_rfl) (by kernel_rfl) ?_
                repeat (go_big_quiet_step (first | (go_at_call 84; with_reducible exact HA.out _) | (go_at_call 84; with_reducible exact HB.out _)))
                refine wpQuiet_nil ?_
                rintro _ ⟨x2, rfl⟩
                go_wp2
                go_ret
                exact RetE.ff (hE.trans x2.h) (fun h => by have := h.cnt k hlt; rw [← HZ1.out, ← HZ2.out, ← HY.out] at this; have := HLE.out; omega)
            · obtain rfl : k = S.stock.length := by omega
              go_wp2
              go_ret
              exact RetE.tt (hE.trans x.h) ⟨HCH.out, HKE.out, fun t h => HR.out t h h⟩
theorem DoesFit07 (v : Value) (S : Swap) (q : Option Addr) (L : List (List Int)) (c : Nat) (w : World) (hv : SwapV w v S) (hS : Valid S) (hq : ListsAt w q L) (hlen : L.length = S.boxes.length)
    (hr : ∀ i (h : i < L.length), L[i].length ≤ 100) :
    Calls Try.prog 43 #[v, .slice q L.length c] w (RetE (.bool (bP (FitP S L))) w) := DoesFit07e v S q L c w hv hS.e hq hlen hr
end Go.Proofs.Ytpgjkmjejpfkmaa
