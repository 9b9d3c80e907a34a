
/- Charts: the walk of (table).rank. -/
import Derived.Test.YtaoamnhchidjfaaDoorC7a
namespace Go.Proofs.YtaoamnhchidjfaaDoor
open Go.RowKit

def cLo (T : Tab) (i k : Nat) : Nat := (List.range k).countP fun j => decide (j ≠ i) && ahd j (loT T j) i (hiT T i)
def cHi (T : Tab) (i k : Nat) : Nat := (List.range k).countP fun j => decide (j ≠ i) && ahd j (hiT T j) i (loT T i)
theorem cLo_succ (T : Tab) (i k : Nat) : cLo T i (k + 1) = cLo T i k + if k ≠ i ∧ ahd k (loT T k) i (hiT T i) = true then 1 else 0 := by
  unfold cLo
  rw [List.range_succ, List.countP_append]
  simp [List.countP_cons]
theorem cHi_succ (T : Tab) (i k : Nat) : cHi T i (k + 1) = cHi T i k + if k ≠ i ∧ ahd k (hiT T k) i (loT T i) = true then 1 else 0 := by
  unfold cHi
  rw [List.range_succ, List.countP_append]
  simp [List.countP_cons]
theorem cLo_le (T : Tab) (i k : Nat) : cLo T i k ≤ k := by
  have := List.countP_le_length (p := fun j => decide (j ≠ i) && ahd j (loT T j) i (hiT T i)) (l := List.range k)
  rw [List.length_range] at this
  exact this
theorem cHi_le (T : Tab) (i k : Nat) : cHi T i k ≤ k := by
  have := List.countP_le_length (p := fun j => decide (j ≠ i) && ahd j (hiT T j) i (loT T i)) (l := List.range k)
  rw [List.length_range] at this
  exact this
def rkV (T : Tab) (i : Nat) : Value := .agg #[.int .i64 (rkLo T i : Nat), .int .i64 (rkHi T i : Nat)]
theorem rankEnd06 {w W : World} {s : Nat} {a : Act} {y0 y1 x y : Value} {t : TypeId} {V : Value} (hV : V = .agg #[y0, y1]) (hE : Ext w W) (hm : W.heap[s]? = some (.cells #[x, y] t)) (hs : w.heap.size ≤ s) (ha : a.tmps[4]? = some (.pointer (some ⟨s, 0, none⟩))) (hd : a.defers = []) :
    bodyPost Tryd.prog Tryd.f29 (RetE V w) .ret a ((W.setCell ⟨s, 0, none⟩ y0).setCell ⟨s, 1, none⟩ y1) := by
  have h := heap_pair (y0 := y0) (y1 := y1) hm
  have c0 := cell_of_heap h 0
  have c1 := cell_of_heap h 1
  simp at c0 c1
  refine bodyPost_ret (v := .agg #[y0, y1]) ?_ hd ⟨by rw [hV], Ext.setCell (Ext.setCell hE (p := ⟨s, 0, none⟩) hs _) (p := ⟨s, 1, none⟩) hs _⟩
  cases a with
  | mk tm df =>
    simp only at ha
    simp [results, Tryd.results29, go_sem, ha, c0, c1]
theorem keep2 {w w' : World} {b : Nat} {t : TypeId} {x y : Value} (h : w.heap[b]? = some (.cells #[x, y] t)) (hE : Ext w w') : w'.heap[b]? = some (.cells #[x, y] t) :=
  (hE.block b (Array.getElem?_eq_some_iff.1 h).1).trans h

set_option maxRecDepth 20000 in
set_option maxHeartbeats 3200000 in
theorem rank06 (T : Tab) (hT : TabOK T) (i : Nat) (hi : i < T.length) (hs : ∀ l ∈ T, l.length ≤ 2000) (hn : T.length ≤ 1000) (q : Option Addr) (c : Nat) (w : World) (hv : ListsAt w q T) :
    Calls Tryd.prog 29 #[.slice q T.length c, .int .i64 i] w (RetE (rkV T i) w) := by
  have HV := Lib.hid hv
  have HT := Lib.hid hT
  have HS := Lib.hid hs
  clear hv hT hs
  go_enter Tryd.func29, Tryd.ntmps29
  go_upto_region 2 with (fail)
  obtain ⟨s0, hs0⟩ : ∃ s0, s0 = w.heap.size := ⟨_, rfl⟩
  obtain ⟨W, hW⟩ : ∃ W, W = (w.alloc (.cells #[.int .i64 0, .int .i64 0] 32)).alloc (.cells #[.int .i64 1, .int .i64 1] 32) := ⟨_, rfl⟩
  have m0 : W.heap[s0]? = some (.cells #[.int .i64 0, .int .i64 0] 32) := by rw [hs0]; exact heap_at0 (by rw [hW]; exact (by repeat (first | exact Ext.refl _ | assumption | refine Ext.drewN ?_ _ | refine Ext.drew ?_ | refine Ext.alloc ?_ _)))
  have m1 : W.heap[s0 + 1]? = some (.cells #[.int .i64 1, .int .i64 1] 32) := by rw [hs0, hW]; exact heap_new2 _ _ _
  have hE : Ext w W := by rw [hW]; exact (by repeat (first | exact Ext.refl _ | assumption | refine Ext.drewN ?_ _ | refine Ext.drew ?_ | refine Ext.alloc ?_ _))
  have hsz : w.heap.size ≤ s0 := by omega
  rw [← hs0, ← hW]
  have HM0 := Lib.hid m0
  have HM1 := Lib.hid m1
  have HE := Lib.hid hE
  have HSZ := Lib.hid hsz
  have HKW := Lib.hid (fun y (h : Ups (s0 + 1) W y) => (⟨HE.out.ups h (by omega), (h.block s0 (Array.getElem?_eq_some_iff.1 m0).1 (by omega)).trans m0⟩ : Ext w y ∧ y.heap[s0]? = some (.cells #[.int .i64 0, .int .i64 0] 32)))
  clear hW m0 m1 hE hs0 hsz
  go_wp2
  go_loopw [10] (fun a wr => ∃ k : Nat, k ≤ T.length ∧ a = .int .i64 k ∧ Ups (s0 + 1) W wr ∧ wr.heap[s0 + 1]? = some (.cells #[.int .i64 (1 + cLo T i k : Nat), .int .i64 (1 + cHi T i k : Nat)] 32)) (fun a _ => T.length - (intOf a).toNat)
  case atStart => exact ⟨0, Nat.zero_le _, rfl, Ups.refl _ _, HM1.out⟩
  case round =>
    obtain ⟨k, hk, rfl, hU, hB⟩ := hrel
    obtain ⟨hEW, hz⟩ := HKW.out wr hU
    have hl1 := cLo_le T i k
    have hl2 := cHi_le T i k
    have HU := Lib.hid hU
    have HB := Lib.hid hB
    by_cases hlt : k < T.length
    · have hlt' : (k : Int) < (T.length : Int) := by omega
      have hs1 := cLo_succ T i k
      have hs2 := cHi_succ T i k
      by_cases hki : k = i
      · subst hki
        rw [if_neg (fun h => h.1 rfl), Nat.add_zero] at hs1 hs2
        have HS1 := Lib.hid hs1
        have HS2 := Lib.hid hs2
        clear hs1 hs2 hU hB hEW hz
        go_wp2
        go_roundw
        case rel => exact ⟨k + 1, by omega, by simp, HU.out, by rw [HS1.out, HS2.out]; exact HB.out⟩
        case measure => simp [intOf]; omega
      · have hne : ((k : Int) == (i : Int)) = false := by simpa using fun h => hki (by omega)
        obtain ⟨lk, hlk⟩ : ∃ x, x = loT T k := ⟨_, rfl⟩
        obtain ⟨li, hli⟩ : ∃ x, x = loT T i := ⟨_, rfl⟩
        obtain ⟨hk', hhk⟩ : ∃ x, x = hiT T k := ⟨_, rfl⟩
        obtain ⟨hi', hhi⟩ : ∃ x, x = hiT T i := ⟨_, rfl⟩
        have HLK := Lib.hid (fun y (h : Ups (s0 + 1) W y) => (show Calls Tryd.prog _ _ y (RetE (.int .i64 lk) y) from by rw [hlk]; exact low06 T HT.out k hlt q c y (HV.out.ext (HKW.out y h).1)))
        have HLI := Lib.hid (fun y (h : Ups (s0 + 1) W y) => (show Calls Tryd.prog _ _ y (RetE (.int .i64 li) y) from by rw [hli]; exact low06 T HT.out i hi q c y (HV.out.ext (HKW.out y h).1)))
        have HHK := Lib.hid (fun y (h : Ups (s0 + 1) W y) => (show Calls Tryd.prog _ _ y (RetE (.int .i64 hk') y) from by rw [hhk]; exact high06 T HT.out k hlt HS.out q c y (HV.out.ext (HKW.out y h).1)))
        have HHI := Lib.hid (fun y (h : Ups (s0 + 1) W y) => (show Calls Tryd.prog _ _ y (RetE (.int .i64 hi') y) from by rw [hhi]; exact high06 T HT.out i hi HS.out q c y (HV.out.ext (HKW.out y h).1)))
        rw [← hlk, ← hhi] at hs1
        rw [← hhk, ← hli] at hs2
        have HA1 := Lib.hid (fun y => ahead06 k lk i hi' y)
        have HA2 := Lib.hid (fun y => ahead06 k hk' i li y)
        obtain ⟨b1, hb1⟩ : ∃ b, b = ahd k lk i hi' := ⟨_, rfl⟩
        obtain ⟨b2, hb2⟩ : ∃ b, b = ahd k hk' i li := ⟨_, rfl⟩
        rw [← hb1] at hs1 HA1
        rw [← hb2] at hs2 HA2
        have HS1 := Lib.hid hs1
        have HS2 := Lib.hid hs2
        have w1 : IntKind.i64.wrap (((1 + cLo T i k : Nat) : Int) + 1) = ((1 + cLo T i k : Nat) : Int) + 1 := IntWalk.i64_in _ (by omega)
        have w2 : IntKind.i64.wrap (((1 + cHi T i k : Nat) : Int) + 1) = ((1 + cHi T i k : Nat) : Int) + 1 := IntWalk.i64_in _ (by omega)
        obtain ⟨x1, hx1⟩ : ∃ x : Nat, x = 1 + cLo T i k := ⟨_, rfl⟩
        obtain ⟨x2, hx2⟩ : ∃ x : Nat, x = 1 + cHi T i k := ⟨_, rfl⟩
        rw [← hx1] at w1 HB
        rw [← hx2] at w2 HB
        have HX := Lib.hid (⟨hx1, hx2⟩ : x1 = 1 + cLo T i k ∧ x2 = 1 + cHi T i k)
        clear hs1 hs2 hU hB hEW hz hlk hli hhk hhi hb1 hb2 hki hx1 hx2 hl1 hl2
        cases b1
        · skip
          go_upto_region 8 with (first
            | (go_at_call 37; refine (HLK.out _ HU.out).mono ?_; rintro e w1 ⟨rfl, hE1⟩)
            | (go_at_call 35; refine (HHI.out _ (HU.out.trans (Ups.ext hE1))).mono ?_; rintro e w2 ⟨rfl, hE2⟩)
            | (go_at_call 49; refine (HA1.out _).mono ?_; rintro e w3 ⟨rfl, hE3⟩))
          have hE3' := hE1.trans (hE2.trans hE3)
          have HN1 := Lib.hid (show x1 = 1 + cLo T i (k + 1) from by rw [HS1.out, HX.out.1, if_neg (fun h => by cases h.2)]; omega)
          have HU2 := Lib.hid (HU.out.trans (Ups.ext hE3'))
          have HB2 := Lib.hid (keep2 HB.out hE3')
          clear hE1 hE2 hE3 hE3' HU HB
          cases b2
          · skip
            go_wp2_with (first
              | (go_at_call 35; refine (HHK.out _ HU2.out).mono ?_; rintro e w1 ⟨rfl, hE1⟩)
              | (go_at_call 37; refine (HLI.out _ (HU2.out.trans (Ups.ext hE1))).mono ?_; rintro e w2 ⟨rfl, hE2⟩)
              | (go_at_call 49; refine (HA2.out _).mono ?_; rintro e w3 ⟨rfl, hE3⟩))
            go_roundw
            case rel => exact ⟨k + 1, by omega, by simp, HU2.out.trans (Ups.ext (hE1.trans (hE2.trans hE3))), by rw [show 1 + cHi T i (k + 1) = x2 from by rw [HS2.out, HX.out.2, if_neg (fun h => by cases h.2)]; omega, ← HN1.out]; exact keep2 HB2.out (hE1.trans (hE2.trans hE3))⟩
            case measure => simp [intOf]; omega
          · skip
            go_wp2_with (first
              | (go_at_call 35; refine (HHK.out _ HU2.out).mono ?_; rintro e w1 ⟨rfl, hE1⟩)
              | (go_at_call 37; refine (HLI.out _ (HU2.out.trans (Ups.ext hE1))).mono ?_; rintro e w2 ⟨rfl, hE2⟩)
              | (go_at_call 49; refine (HA2.out _).mono ?_; rintro e w3 ⟨rfl, hE3⟩; have d1 := cell_of_heap (keep2 HB2.out (hE1.trans (hE2.trans hE3))) 1; have g1 := cell_frozen (keep2 HB2.out (hE1.trans (hE2.trans hE3))) 1))
            go_roundw
            case rel => exact ⟨k + 1, by omega, by simp, (HU2.out.trans (Ups.ext (hE1.trans (hE2.trans hE3)))).setCell _ _, heap_set (keep2 HB2.out (hE1.trans (hE2.trans hE3))) (by rw [show 1 + cHi T i (k + 1) = x2 + 1 from by rw [HS2.out, HX.out.2, if_pos ⟨fun h => by simp [h] at hne, by first | rfl | trivial⟩]; omega, ← HN1.out]; rfl)⟩
            case measure => simp [intOf]; omega
        · skip
          go_upto_region 8 with (first
            | (go_at_call 37; refine (HLK.out _ HU.out).mono ?_; rintro e w1 ⟨rfl, hE1⟩)
            | (go_at_call 35; refine (HHI.out _ (HU.out.trans (Ups.ext hE1))).mono ?_; rintro e w2 ⟨rfl, hE2⟩)
            | (go_at_call 49; refine (HA1.out _).mono ?_; rintro e w3 ⟨rfl, hE3⟩; have d0 := cell_of_heap (keep2 HB.out (hE1.trans (hE2.trans hE3))) 0; have g0 := cell_frozen (keep2 HB.out (hE1.trans (hE2.trans hE3))) 0))
          have hE3' := hE1.trans (hE2.trans hE3)
          obtain ⟨W2, hW2⟩ : ∃ W2, W2 = w3.setCell ⟨s0 + 1, 0, none⟩ (.int .i64 ((x1 : Int) + 1)) := ⟨_, rfl⟩
          have hU2 : Ups (s0 + 1) W W2 := by rw [hW2]; exact (HU.out.trans (Ups.ext hE3')).setCell _ _
          have hB2 : W2.heap[s0 + 1]? = some (.cells #[.int .i64 ((x1 : Int) + 1), .int .i64 (x2 : Nat)] 32) := by rw [hW2]; exact heap_set (keep2 HB.out hE3') rfl
          rw [← hW2]
          have HN1 := Lib.hid (show x1 + 1 = 1 + cLo T i (k + 1) from by rw [HS1.out, HX.out.1, if_pos ⟨fun h => by simp [h] at hne, by first | rfl | trivial⟩]; omega)
          have HU2 := Lib.hid hU2
          have HB2 := Lib.hid hB2
          clear hE1 hE2 hE3 hE3' hW2 hU2 hB2 d0 g0 HU HB
          cases b2
          · skip
            go_wp2_with (first
              | (go_at_call 35; refine (HHK.out _ HU2.out).mono ?_; rintro e w1 ⟨rfl, hE1⟩)
              | (go_at_call 37; refine (HLI.out _ (HU2.out.trans (Ups.ext hE1))).mono ?_; rintro e w2 ⟨rfl, hE2⟩)
              | (go_at_call 49; refine (HA2.out _).mono ?_; rintro e w3 ⟨rfl, hE3⟩))
            go_roundw
            case rel => exact ⟨k + 1, by omega, by simp, HU2.out.trans (Ups.ext (hE1.trans (hE2.trans hE3))), by rw [show 1 + cHi T i (k + 1) = x2 from by rw [HS2.out, HX.out.2, if_neg (fun h => by cases h.2)]; omega, ← HN1.out]; exact keep2 HB2.out (hE1.trans (hE2.trans hE3))⟩
            case measure => simp [intOf]; omega
          · skip
            go_wp2_with (first
              | (go_at_call 35; refine (HHK.out _ HU2.out).mono ?_; rintro e w1 ⟨rfl, hE1⟩)
              | (go_at_call 37; refine (HLI.out _ (HU2.out.trans (Ups.ext hE1))).mono ?_; rintro e w2 ⟨rfl, hE2⟩)
              | (go_at_call 49; refine (HA2.out _).mono ?_; rintro e w3 ⟨rfl, hE3⟩; have d1 := cell_of_heap (keep2 HB2.out (hE1.trans (hE2.trans hE3))) 1; have g1 := cell_frozen (keep2 HB2.out (hE1.trans (hE2.trans hE3))) 1))
            go_roundw
            case rel => exact ⟨k + 1, by omega, by simp, (HU2.out.trans (Ups.ext (hE1.trans (hE2.trans hE3)))).setCell _ _, heap_set (keep2 HB2.out (hE1.trans (hE2.trans hE3))) (by rw [show 1 + cHi T i (k + 1) = x2 + 1 from by rw [HS2.out, HX.out.2, if_pos ⟨fun h => by simp [h] at hne, by first | rfl | trivial⟩]; omega, ← HN1.out]; rfl)⟩
            case measure => simp [intOf]; omega
    · obtain rfl : k = T.length := by omega
      have d0 := cell_of_heap HB.out 0
      have d1 := cell_of_heap HB.out 1
      have g0 := cell_frozen hz 0
      have g1 := cell_frozen hz 1
      have z0 := cell_of_heap hz 0
      have z1 := cell_of_heap hz 1
      have HZ := Lib.hid hz
      have HEW := Lib.hid hEW
      have HRK := Lib.hid (show rkV T i = .agg #[.int .i64 (1 + cLo T i T.length : Nat), .int .i64 (1 + cHi T i T.length : Nat)] from rfl)
      obtain ⟨x1, hx1⟩ : ∃ x : Nat, x = 1 + cLo T i T.length := ⟨_, rfl⟩
      obtain ⟨x2, hx2⟩ : ∃ x : Nat, x = 1 + cHi T i T.length := ⟨_, rfl⟩
      rw [← hx1, ← hx2] at HRK
      rw [← hx1] at d0
      rw [← hx2] at d1
      clear hU hB hz hEW hx1 hx2 hl1 hl2
      go_wp2
      refine rankEnd06 HRK.out HEW.out HZ.out HSZ.out ?_ ?_ <;> rfl
end Go.Proofs.YtaoamnhchidjfaaDoor
