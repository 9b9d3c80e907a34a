/- The walk of swaps.Check: what it returns, whatever the visit. -/
import Derived.Test.YtpgjkmjejpfkmaaW07i
namespace Go.Proofs.Ytpgjkmjejpfkmaa
open Go.RowKit

set_option maxHeartbeats 800000 in
theorem IndexInt (p : Option Addr) (l : List Int) (c : Nat) (x : Int) (w : World) (hl : l.length ≤ 100000) (h : IntsAt w p l) :
    Calls Try.prog 93 #[.slice p l.length c, .int .i64 x] w fun e w' => ∃ n : Int, e = .returned (.int .i64 n) ∧ (0 ≤ n ↔ x ∈ l) ∧ Qt w w' := by
  go_enter Try.func93, Try.ntmps93
  go_wp2
  go_loopw [8] (fun i wr => ∃ k : Nat, k ≤ l.length ∧ i = .int .i64 k ∧ (∀ y ∈ l.take k, ¬x = y) ∧ Qt w wr) (fun i _ => l.length - (intOf i).toNat)
  case atStart => exact ⟨0, by omega, rfl, by simp, Qt.refl _⟩
  case round =>
    obtain ⟨k, hk, rfl, hr, hQ⟩ := hrel
    have HR := Lib.hid hr
    clear hr
    by_cases hlt : k < l.length
    · obtain ⟨b, o, rfl, hc⟩ := (h.ext hQ.ext).at k hlt
      by_cases hq : x = l[k]
      · have HQ := Lib.hid hq
        have hq' : (x == l[k]) = true := by simpa using hq
        clear hq
        go_wp2
        try (go_quiet (fail))
        go_wp2
        go_ret
        exact ⟨k, rfl, ⟨fun _ => by rw [HQ.out]; exact List.getElem_mem hlt, fun _ => by omega⟩, (by repeat (first | exact Qt.refl _ | assumption | refine Qt.drewN ?_ _ | refine Qt.drew ?_))⟩
      · have HQ := Lib.hid hq
        have hq' : (x == l[k]) = false := by simpa using hq
        clear hq
        go_wp2
        try (go_quiet (fail))
        go_wp2
        go_roundw
        case rel => exact ⟨k + 1, by omega, by go_num, by
          rw [List.take_succ_eq_append_getElem hlt]
          intro y hy
          rcases List.mem_append.1 hy with h1 | h1
          · exact HR.out y h1
          · rw [List.mem_singleton.1 h1]; exact HQ.out, (by repeat (first | exact Qt.refl _ | assumption | refine Qt.drewN ?_ _ | refine Qt.drew ?_))⟩
        case measure => simp [intOf]; omega
    · go_wp2
      go_ret
      exact ⟨-1, rfl, ⟨fun h => absurd h (by decide), fun hx => absurd rfl (HR.out x (by rwa [List.take_of_length_le (by omega)]))⟩, (by repeat (first | exact Qt.refl _ | assumption | refine Qt.drewN ?_ _ | refine Qt.drew ?_))⟩

set_option maxHeartbeats 400000 in
theorem ContainsInt (p : Option Addr) (l : List Int) (c : Nat) (x : Int) (w : World) (hl : l.length ≤ 100000) (h : IntsAt w p l) :
    Calls Try.prog 74 #[.slice p l.length c, .int .i64 x] w (RetQ (.bool (bP (x ∈ l))) w) := by
  have HC := Lib.hid (IndexInt p l c x w hl h)
  go_enter Try.func74, Try.ntmps74
  go_wp2_with fail
  refine HC.out.mono ?_
  rintro e W2 ⟨n, rfl, hn, hE2⟩
  have HN := Lib.hid hn
  clear hn
  go_wp2
  go_ret
  exact RetQ.of hE2 (by rw [← HN.out]; simp)

/-! the closures of Check -/
set_option maxHeartbeats 400000 in
theorem badStock07 (n : Int) (w : World) : Calls Try.prog 67 #[.int .i64 n] w (RetE (.bool (bP (¬(0 ≤ n ∧ n ≤ 9)))) w) := by
  by_cases h : 0 ≤ n ∧ n ≤ 9
  · have HC := Lib.hid (RetS.bt h (within07s n 0 9 w))
    have H := Lib.hid h
    clear h
    go_enter Try.func67, Try.ntmps67
    go_wp2_with (go_at_call 57; refine HC.out.mono ?_; rintro e w' ⟨rfl, rfl⟩)
    go_ret
    exact RetE.ff (Ext.refl _) (fun hn => hn H.out)
  · have HC := Lib.hid (RetS.bf h (within07s n 0 9 w))
    have H := Lib.hid h
    clear h
    go_enter Try.func67, Try.ntmps67
    go_wp2_with (go_at_call 57; refine HC.out.mono ?_; rintro e w' ⟨rfl, rfl⟩)
    go_ret
    exact RetE.tt (Ext.refl _) H.out
set_option maxHeartbeats 400000 in
theorem badCell07 (n : Int) (w : World) : Calls Try.prog 70 #[.int .i64 n] w (RetE (.bool (bP (¬(0 ≤ n ∧ n ≤ 999)))) w) := by
  by_cases h : 0 ≤ n ∧ n ≤ 999
  · have HC := Lib.hid (RetS.bt h (within07s n 0 999 w))
    have H := Lib.hid h
    clear h
    go_enter Try.func70, Try.ntmps70
    go_wp2_with (go_at_call 57; refine HC.out.mono ?_; rintro e w' ⟨rfl, rfl⟩)
    go_ret
    exact RetE.ff (Ext.refl _) (fun hn => hn H.out)
  · have HC := Lib.hid (RetS.bf h (within07s n 0 999 w))
    have H := Lib.hid h
    clear h
    go_enter Try.func70, Try.ntmps70
    go_wp2_with (go_at_call 57; refine HC.out.mono ?_; rintro e w' ⟨rfl, rfl⟩)
    go_ret
    exact RetE.tt (Ext.refl _) H.out

def BadEarn (boxes : Nat) (l : List Int) : Prop := l.length ≠ boxes ∨ ∃ n ∈ l, ¬(0 ≤ n ∧ n ≤ 999)
set_option maxHeartbeats 400000 in
theorem badEarn07 (p : Option Addr) (l : List Int) (c boxes B : Nat) (w : World) (hl : l.length ≤ 100000) (h : IntsAt w p l) (hb : w.cell? ⟨B, 0, none⟩ = some (.int .i64 boxes)) :
    Calls Try.prog 68 #[.slice p l.length c, .pointer (some ⟨B, 0, none⟩)] w (RetE (.bool (bP (BadEarn boxes l))) w) := by
  by_cases hlen : l.length = boxes
  · have HL := Lib.hid hlen
    have hne : ((l.length : Int) != (boxes : Int)) = false := by simp [hlen]
    clear hlen
    have hC := ContainsFuncInt p l c 70 #[] w (fun n => ¬(0 ≤ n ∧ n ≤ 999)) hl h ⟨Try.call70, fun w' v x _ _ hv => by rw [show v = .int .i64 x from hv]; exact badCell07 x w'⟩
    have HC := Lib.hid hC
    clear hC
    go_enter Try.func68, Try.ntmps68
    go_wp2_with fail
    refine HC.out.mono ?_
    rintro e W2 ⟨rfl, hE2⟩
    by_cases hq : ∃ n ∈ l, ¬(0 ≤ n ∧ n ≤ 999)
    · rw [bP_t hq]
      have HQ := Lib.hid hq
      clear hq
      go_wp2
      go_ret
      exact RetE.tt hE2 (.inr HQ.out)
    · rw [bP_f hq]
      have HQ := Lib.hid hq
      clear hq
      go_wp2
      go_ret
      exact RetE.ff hE2 (fun h => h.elim (fun h => h HL.out) HQ.out)
  · have HL := Lib.hid hlen
    have hne : ((l.length : Int) != (boxes : Int)) = true := by simp; omega
    clear hlen
    go_enter Try.func68, Try.ntmps68
    go_wp2
    go_ret
    exact RetE.tt (Ext.refl _) (.inl HL.out)

def BadBox (t : Nat) (l : List Int) : Prop := ¬Rises l 0 ((t : Int) - 1) ∨ 3 < l.length
set_option maxHeartbeats 400000 in
theorem badBox07 (p : Option Addr) (l : List Int) (c t B : Nat) (w : World) (hl : l.length ≤ 100000) (h : IntsAt w p l) (hb : w.cell? ⟨B, 0, none⟩ = some (.int .i64 t)) (ht : t ≤ 6) :
    Calls Try.prog 71 #[.slice p l.length c, .pointer (some ⟨B, 0, none⟩)] w (RetE (.bool (bP (BadBox t l))) w) := by
  have hC := parse07 p l c t w hl ht h
  by_cases hr : Rises l 0 ((t : Int) - 1)
  · rw [parseV_t hr] at hC
    have HR := Lib.hid hr
    have HC := Lib.hid hC
    clear hr hC
    go_enter Try.func71, Try.ntmps71
    go_wp2_with (go_at_call 72; refine HC.out.mono ?_; rintro e w' ⟨rfl, rfl⟩)
    go_ret
    refine RetE.of (Ext.refl _) ?_
    unfold BadBox
    have := HR.out
    simp only [decide_eq_true_eq, this, not_true_eq_false, false_or]
    omega
  · rw [parseV_f hr] at hC
    have HR := Lib.hid hr
    have HC := Lib.hid hC
    clear hr hC
    go_enter Try.func71, Try.ntmps71
    go_wp2_with (go_at_call 72; refine HC.out.mono ?_; rintro e w' ⟨rfl, rfl⟩)
    go_ret
    exact RetE.tt (Ext.refl _) (.inl HR.out)

def BadKeep (S : Swap) (k : Int × Int) : Prop := ¬(0 ≤ k.1 ∧ k.1 ≤ (S.boxes.length : Int) - 1) ∨ k.2 ∉ S.boxes.getD k.1.toNat []
set_option maxHeartbeats 800000 in
theorem badKeep07 (K : Int × Int) (p0 : Option Addr) (c0 B D : Nat) (S : Swap) (w : World) (h : ListsAt w p0 S.boxes) (hl : S.boxes.length ≤ 100000) (hr : ∀ i (h : i < S.boxes.length), S.boxes[i].length ≤ 100000)
    (hb : w.cell? ⟨B, 0, none⟩ = some (.int .i64 S.boxes.length)) (hd : w.cell? ⟨D, 0, none⟩ = some (.slice p0 S.boxes.length c0)) :
    Calls Try.prog 73 #[.agg #[.int .i64 K.1, .int .i64 K.2], .pointer (some ⟨B, 0, none⟩), .pointer (some ⟨D, 0, none⟩)] w (RetE (.bool (bP (BadKeep S K))) w) := by
  go_enter Try.func73, Try.ntmps73
  go_upto_region 1 with (fail)
  have hn := heap_new w (.cells #[.int .i64 K.1, .int .i64 K.2] 45)
  obtain ⟨W, hW⟩ : ∃ W, W = w.alloc (.cells #[.int .i64 K.1, .int .i64 K.2] 45) := ⟨_, rfl⟩
  have hE : Ext w W := by rw [hW]; exact Ext.alloc (Ext.refl w) _
  rw [← hW] at hn ⊢
  have n0 := cell_of_heap hn 0
  have n1 := cell_of_heap hn 1
  simp at n0 n1
  have hb1 := hE.cell hb
  have hd1 := hE.cell hd
  have hL := h.ext hE
  clear hW hn hb hd h
  by_cases hk : 0 ≤ K.1 ∧ K.1 ≤ (S.boxes.length : Int) - 1
  · obtain ⟨kb, hkb⟩ := Int.eq_ofNat_of_zero_le hk.1
    have hlt : kb < S.boxes.length := by omega
    obtain ⟨b, o, q, c, rfl, hc, hq⟩ := hL.at kb hlt
    have hgd : S.boxes.getD K.1.toNat [] = S.boxes[kb] := by rw [hkb, Int.toNat_natCast]; simp [List.getD, hlt]
    have hrow := hr kb hlt
    have HK := Lib.hid hk
    rw [hkb] at n0 hk
    by_cases hin : K.2 ∈ S.boxes[kb]
    · have HIN := Lib.hid hin
      have HKB := Lib.hid hkb
      have HGD := Lib.hid hgd
      have HW := Lib.hid (fun n => RetS.q (RetS.bt hk (within07s kb 0 ((S.boxes.length : Int) - 1) (W.drewN n))))
      have HC := Lib.hid (fun n => RetQ.bt hin (ContainsInt q S.boxes[kb] c K.2 (W.drewN n) hrow hq))
      clear hk hkb hgd hin hr
      go_quiet ((first | (go_at_call 57; exact RetQ.quiet (HW.out _)) | (go_at_call 74; exact RetQ.quiet (HC.out _))))
      go_wp2
      go_ret
      refine RetE.ff (hE.trans (Qt.ext (by repeat (first | exact Qt.refl _ | assumption | refine Qt.drewN ?_ _ | refine Qt.drew ?_)))) ?_
      rintro (h | h)
      · exact h HK.out
      · rw [HGD.out] at h; exact h HIN.out
    · have HIN := Lib.hid hin
      have HKB := Lib.hid hkb
      have HGD := Lib.hid hgd
      have HW := Lib.hid (fun n => RetS.q (RetS.bt hk (within07s kb 0 ((S.boxes.length : Int) - 1) (W.drewN n))))
      have HC := Lib.hid (fun n => RetQ.bf hin (ContainsInt q S.boxes[kb] c K.2 (W.drewN n) hrow hq))
      clear hk hkb hgd hin hr
      go_quiet ((first | (go_at_call 57; exact RetQ.quiet (HW.out _)) | (go_at_call 74; exact RetQ.quiet (HC.out _))))
      go_wp2
      go_ret
      refine RetE.tt (hE.trans (Qt.ext (by repeat (first | exact Qt.refl _ | assumption | refine Qt.drewN ?_ _ | refine Qt.drew ?_)))) (Or.inr ?_)
      rw [HGD.out]; exact HIN.out
  · have HK := Lib.hid hk
    have HW := Lib.hid (fun n => RetS.q (RetS.bf hk (within07s K.1 0 ((S.boxes.length : Int) - 1) (W.drewN n))))
    clear hk hr
    go_quiet ((go_at_call 57; exact RetQ.quiet (HW.out _)))
    go_wp2
    go_ret
    exact RetE.tt (hE.trans (Qt.ext (by repeat (first | exact Qt.refl _ | assumption | refine Qt.drewN ?_ _ | refine Qt.drew ?_)))) (Or.inl HK.out)

/-- no list is too long to be walked -/
structure Modest (S : Swap) : Prop where
  boxes : S.boxes.length ≤ 100000
  box : ∀ i (h : i < S.boxes.length), S.boxes[i].length ≤ 100000
  stock : S.stock.length ≤ 100000
  earn : S.earn.length ≤ 100000
  row : ∀ i (h : i < S.earn.length), S.earn[i].length ≤ 100000
  keeps : S.keeps.length ≤ 100000

/-- what Check returns -/
noncomputable def chk (S : Swap) : Int := if bP (Valid S) = true then 0 else 70
theorem chk_t {S : Swap} (h : Valid S) : chk S = 0 := by simp [chk, bP_t h]
theorem chk_f {S : Swap} (h : ¬Valid S) : chk S = 70 := by simp [chk, bP_f h]

theorem chk_70 {S : Swap} {v : Value} (h : ¬Valid S) (e : v = .int .i64 70) : v = .int .i64 (chk S) := by rw [chk_f h, e]
theorem chk_0 {S : Swap} {v : Value} (h : Valid S) (e : v = .int .i64 0) : v = .int .i64 (chk S) := by rw [chk_t h, e]
theorem getD_of_lt {α : Type} (l : List α) (d : α) (i : Nat) (h : i < l.length) : l.getD i d = l[i] := by simp [List.getD, h]

set_option maxHeartbeats 1600000 in
theorem Check07 (v : Value) (S : Swap) (w : World) (hv : SwapV w v S) (hM : Modest S) : Calls Try.prog 31 #[v] w (RetE (.int .i64 (chk S)) w) := by
  obtain ⟨p0, c0, p1, c1, p2, c2, p3, c3, rfl, h0, h1, h2, h3⟩ := hv
  have m0 := hM.boxes
  have m1 := hM.stock
  have m2 := hM.earn
  have m3 := hM.keeps
  go_enter Try.func31, Try.ntmps31
  go_upto_region 1 with (fail)
  go_cut [3, 4] from 9 (fun a b wc => ∃ B3 B4, a = .pointer (some ⟨B3, 0, none⟩) ∧ b = .pointer (some ⟨B4, 0, none⟩) ∧ wc.cell? ⟨B3, 0, none⟩ = some (.int .i64 S.stock.length) ∧ wc.cell? ⟨B4, 0, none⟩ = some (.int .i64 S.boxes.length) ∧
      wc.heap[w.heap.size]? = some (.cells #[.slice p0 S.boxes.length c0, .slice p1 S.stock.length c1, .slice p2 S.earn.length c2, .slice p3 S.keeps.length c3, .int .i64 S.changes] 26) ∧ Ext w wc)
  case first =>
    go_region
    all_goals
      go_wp2
      go_meet
      case rel =>
        refine ⟨_, _, rfl, rfl, ?_, ?_, ?_, ?_⟩
        · go_simp
        · go_simp
        · refine heap_drew ?_
          rw [Below.heap_alloc _ _ _ (by simp; omega), Below.heap_alloc _ _ _ (by simp), heap_new]
        · exact Ext.drew (Ext.alloc (Ext.alloc (Ext.alloc (Ext.refl w) _) _) _)
  case rest =>
    obtain ⟨B3, B4, rfl, rfl, hb3, hb4, hsb, hE⟩ := hcut
    have q0 := cell_of_heap hsb 0
    have q1 := cell_of_heap hsb 1
    have q2 := cell_of_heap hsb 2
    have q3 := cell_of_heap hsb 3
    have q4 := cell_of_heap hsb 4
    simp at q0 q1 q2 q3 q4
    have k0 := h0.ext hE
    have k1 := h1.ext hE
    have k2 := h2.ext hE
    have k3 := h3.ext hE
    clear hsb h0 h1 h2 h3
    by_cases hA : 3 < S.boxes.length
    · go_wp2
      go_ret
      exact RetE.fin hE (chk_70 (fun h => by have := h.boxes; omega) rfl)
    · by_cases hB : 6 < S.stock.length
      · go_wp2
        go_ret
        exact RetE.fin hE (chk_70 (fun h => by have := h.stock; omega) rfl)
      · by_cases hC : S.earn.length = S.stock.length
        · have HC := Lib.hid hC
          have hC' : ((S.earn.length : Int) != (S.stock.length : Int)) = false := by simp [hC]
          clear hC
          by_cases hD : 4 < S.keeps.length
          · go_wp2
            go_ret
            exact RetE.fin hE (chk_70 (fun h => by have := h.keeps; omega) rfl)
          · by_cases hG : 0 ≤ S.changes ∧ S.changes ≤ 3
            · have HG := Lib.hid hG
              have HGC := Lib.hid (RetS.bt hG (within07s S.changes 0 3 wc))
              clear hG
              have hstk := ContainsFuncInt p1 S.stock c1 67 #[] wc (fun n => ¬(0 ≤ n ∧ n ≤ 9)) m1 k1 ⟨Try.call67, fun w' v x _ _ hv => by rw [show v = .int .i64 x from hv]; exact badStock07 x w'⟩
              have HSTK := Lib.hid hstk
              clear hstk
              go_wp2_with (go_at_call 57; refine HGC.out.mono ?_; rintro e w' ⟨rfl, rfl⟩)
              refine HSTK.out.mono ?_
              rintro e W2 ⟨rfl, hE2⟩
              replace q0 := hE2.cell q0
              replace q2 := hE2.cell q2
              replace q3 := hE2.cell q3
              replace hb3 := hE2.cell hb3
              replace hb4 := hE2.cell hb4
              replace k0 := k0.ext hE2
              replace k2 := k2.ext hE2
              replace k3 := k3.ext hE2
              by_cases hF : ∃ x ∈ S.stock, ¬(0 ≤ x ∧ x ≤ 9)
              · rw [bP_t hF]
                have HF := Lib.hid hF
                clear hF
                go_wp2
                go_ret
                refine RetE.fin (hE.trans hE2) (chk_70 (fun h => ?_) rfl)
                obtain ⟨x, hx, hn⟩ := HF.out
                obtain ⟨i, hi, rfl⟩ := List.getElem_of_mem hx
                exact hn (h.st i hi)
              · rw [bP_f hF]
                have HF := Lib.hid hF
                clear hF
                have hern := ContainsFuncLists p2 S.earn c2 68 #[.pointer (some ⟨B4, 0, none⟩)] W2 (BadEarn S.boxes.length) m2 k2 ⟨Try.call68, fun w' v x hw' hx hv => by
                  obtain ⟨q, c, rfl, hq⟩ := hv
                  obtain ⟨i, hi, rfl⟩ := List.getElem_of_mem hx
                  exact badEarn07 q _ c S.boxes.length B4 w' (hM.row i hi) hq (hw'.cell hb4)⟩
                have HERN := Lib.hid hern
                clear hern
                go_wp2_with fail
                refine HERN.out.mono ?_
                rintro e W3 ⟨rfl, hE3⟩
                replace q0 := hE3.cell q0
                replace q3 := hE3.cell q3
                replace hb3 := hE3.cell hb3
                replace hb4 := hE3.cell hb4
                replace k0 := k0.ext hE3
                replace k3 := k3.ext hE3
                by_cases hH : ∃ x ∈ S.earn, BadEarn S.boxes.length x
                · rw [bP_t hH]
                  have HH := Lib.hid hH
                  clear hH
                  go_wp2
                  go_ret
                  refine RetE.fin ((hE.trans hE2).trans hE3) (chk_70 (fun h => ?_) rfl)
                  obtain ⟨x, hx, hn⟩ := HH.out
                  obtain ⟨i, hi, rfl⟩ := List.getElem_of_mem hx
                  rcases hn with hn | ⟨y, hy, hn⟩
                  · exact hn (h.row i hi)
                  · obtain ⟨k, hk, rfl⟩ := List.getElem_of_mem hy
                    exact hn (h.cell i hi k hk)
                · rw [bP_f hH]
                  have HH := Lib.hid hH
                  clear hH
                  have hbox := ContainsFuncLists p0 S.boxes c0 71 #[.pointer (some ⟨B3, 0, none⟩)] W3 (BadBox S.stock.length) m0 k0 ⟨Try.call71, fun w' v x hw' hx hv => by
                    obtain ⟨q, c, rfl, hq⟩ := hv
                    obtain ⟨i, hi, rfl⟩ := List.getElem_of_mem hx
                    exact badBox07 q _ c S.stock.length B3 w' (hM.box i hi) hq (hw'.cell hb3) (by omega)⟩
                  have HBOX := Lib.hid hbox
                  clear hbox
                  go_wp2_with fail
                  refine HBOX.out.mono ?_
                  rintro e W4 ⟨rfl, hE4⟩
                  replace q0 := hE4.cell q0
                  replace q3 := hE4.cell q3
                  replace hb4 := hE4.cell hb4
                  replace k0 := k0.ext hE4
                  replace k3 := k3.ext hE4
                  by_cases hI : ∃ x ∈ S.boxes, BadBox S.stock.length x
                  · rw [bP_t hI]
                    have HI := Lib.hid hI
                    clear hI
                    go_wp2
                    go_ret
                    refine RetE.fin (((hE.trans hE2).trans hE3).trans hE4) (chk_70 (fun h => ?_) rfl)
                    obtain ⟨x, hx, hn⟩ := HI.out
                    obtain ⟨i, hi, rfl⟩ := List.getElem_of_mem hx
                    rcases hn with hn | hn
                    · exact hn (h.box i hi).2
                    · have := (h.box i hi).1
                      omega
                  · rw [bP_f hI]
                    have HI := Lib.hid hI
                    clear hI
                    have hkp := ContainsFuncKeeps p3 S.keeps c3 73 #[.pointer (some ⟨B4, 0, none⟩), .pointer (some ⟨w.heap.size, 0, none⟩)] W4 (BadKeep S) m3 k3 ⟨Try.call73, fun w' v x hw' hx hv => by
                      rw [show v = _ from hv]
                      exact badKeep07 x p0 c0 B4 w.heap.size S w' (k0.ext hw') m0 hM.box (hw'.cell hb4) (hw'.cell q0)⟩
                    have HKP := Lib.hid hkp
                    clear hkp
                    go_wp2_with fail
                    refine HKP.out.mono ?_
                    rintro e W5 ⟨rfl, hE5⟩
                    by_cases hJ : ∃ x ∈ S.keeps, BadKeep S x
                    · rw [bP_t hJ]
                      have HJ := Lib.hid hJ
                      clear hJ
                      go_wp2
                      go_ret
                      refine RetE.fin ((((hE.trans hE2).trans hE3).trans hE4).trans hE5) (chk_70 (fun h => ?_) rfl)
                      obtain ⟨x, hx, hn⟩ := HJ.out
                      obtain ⟨i, hi, rfl⟩ := List.getElem_of_mem hx
                      obtain ⟨g1, g2, g3⟩ := h.keep i hi
                      rcases hn with hn | hn
                      · exact hn ⟨g1, g2⟩
                      · exact hn g3
                    · rw [bP_f hJ]
                      have HJ := Lib.hid hJ
                      clear hJ
                      go_wp2
                      go_ret
                      refine RetE.fin ((((hE.trans hE2).trans hE3).trans hE4).trans hE5) (chk_0 ?_ rfl)
                      have no {α : Type} {l : List α} {p : α → Prop} (h : ¬∃ x ∈ l, p x) (i : Nat) (hi : i < l.length) : ¬p l[i] := fun hp => h ⟨_, List.getElem_mem hi, hp⟩
                      have e1 : ∀ i (h : i < S.earn.length), ¬BadEarn S.boxes.length S.earn[i] := fun i h => no HH.out i h
                      refine ⟨by omega, by omega, HC.out, by omega, HG.out, fun i hi => ?_, fun i hi => ?_, fun i hi => ?_, fun i hi k hk => ?_, fun i hi => ?_⟩
                      · have := no HI.out i hi
                        unfold BadBox at this
                        exact ⟨by omega, Classical.byContradiction fun h => this (Or.inl h)⟩
                      · exact Classical.byContradiction fun h => no HF.out i hi h
                      · exact Classical.byContradiction fun h => e1 i hi (Or.inl h)
                      · exact Classical.byContradiction fun h => e1 i hi (Or.inr ⟨_, List.getElem_mem hk, h⟩)
                      · have := no HJ.out i hi
                        unfold BadKeep at this
                        have g : 0 ≤ S.keeps[i].1 ∧ S.keeps[i].1 ≤ (S.boxes.length : Int) - 1 := Classical.byContradiction fun h => this (Or.inl h)
                        exact ⟨g.1, g.2, Classical.byContradiction fun h => this (Or.inr h)⟩
            · have HG := Lib.hid hG
              have HGC := Lib.hid (RetS.bf hG (within07s S.changes 0 3 wc))
              clear hG
              go_wp2_with (go_at_call 57; refine HGC.out.mono ?_; rintro e w' ⟨rfl, rfl⟩)
              go_ret
              exact RetE.fin hE (chk_70 (fun h => HG.out h.ch) rfl)
        · have HC := Lib.hid hC
          have hC' : ((S.earn.length : Int) != (S.stock.length : Int)) = true := by simp; omega
          clear hC
          go_wp2
          go_ret
          exact RetE.fin hE (chk_70 (fun h => HC.out h.earn) rfl)
end Go.Proofs.Ytpgjkmjejpfkmaa
