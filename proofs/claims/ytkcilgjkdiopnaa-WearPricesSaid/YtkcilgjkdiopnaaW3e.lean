/- The walks of rough and play. -/
import Derived.Test.YtkcilgjkdiopnaaE03b
namespace Go.Proofs.Ytkcilgjkdiopnaa
open Go.RowKit

set_option maxHeartbeats 800000 in
theorem rough03 (v : Value) (X : Wr) (a : Int) (w : World) (hv : WrV w v X) (hX : ValidW X) (ha : 0 ≤ a) (hb : a ≤ 1000000) : Calls Try.prog 105 #[v, .int .i64 a] w (RetE (.int .i64 (roughW X a)) w) := by
  obtain ⟨p, c, q, d, rfl, h1, h2⟩ := hv
  have hr := hX.rough
  have hs := hX.step
  have hi := roughI_lt hX ha
  obtain ⟨b, o, rfl, hc⟩ := h1.at (roughI X a) hi
  rw [← roughW_eq hX ha] at hc
  have hq : Int.tdiv a X.step = a / X.step := Int.tdiv_eq_ediv_of_nonneg ha
  have hz : ¬X.step = 0 := by omega
  have hq0 : 0 ≤ a / X.step := Int.ediv_nonneg ha (by omega)
  have hq1 : a / X.step ≤ a := Int.ediv_le_self _ ha
  have hI : roughI X a = (min (a / X.step) ((X.rough.length : Int) - 1)).toNat := rfl
  obtain ⟨qq, hqq⟩ : ∃ qq, qq = a / X.step := ⟨_, rfl⟩
  rw [← hqq] at hq hq0 hq1 hI
  obtain ⟨r, hR⟩ : ∃ r, r = roughW X a := ⟨_, rfl⟩
  obtain ⟨ii, hii⟩ : ∃ ii, ii = roughI X a := ⟨_, rfl⟩
  rw [← hR] at hc ⊢
  rw [← hii] at hc hI hi
  have hw1 : IntKind.i64.wrap ((X.rough.length : Int) - 1) = (X.rough.length : Int) - 1 := by rw [IntKind.wrap_i64]; omega
  have hw2 : IntKind.i64.wrap qq = qq := by rw [IntKind.wrap_i64]; omega
  clear h1 h2 hqq hR hii
  by_cases hm : qq ≤ (X.rough.length : Int) - 1
  · obtain rfl : qq = (ii : Int) := by omega
    have hif : (if (X.rough.length : Int) - 1 < (ii : Int) then (X.rough.length : Int) - 1 else (ii : Int)) = (ii : Int) := if_neg (by omega)
    clear hI hX hm
    go_enter Try.func105, Try.ntmps105
    go_upto_region 1 with (fail)
    have hn := heap_new w (.cells #[.int .i64 X.weeks, .int .i64 X.price, .int .i64 X.age, .int .i64 X.step, .slice (some ⟨b, o, none⟩) X.rough.length c, .slice q X.recs.length d] 88)
    obtain ⟨W, hW⟩ : ∃ W, W = w.alloc (.cells #[.int .i64 X.weeks, .int .i64 X.price, .int .i64 X.age, .int .i64 X.step, .slice (some ⟨b, o, none⟩) X.rough.length c, .slice q X.recs.length d] 88) := ⟨_, rfl⟩
    have hE : Ext w W := by rw [hW]; exact Ext.alloc (Ext.refl w) _
    rw [← hW] at hn ⊢
    have q3 := ExtW.cell (v := .int .i64 X.step) (cell_of_heap hn 3)
    have q4 := ExtW.cell (v := .slice (some ⟨b, o, none⟩) X.rough.length c) (cell_of_heap hn 4)
    have qc := ExtW.cell (hE.cell hc)
    obtain ⟨x0, hx0⟩ := ExtW.of (Ext.refl W)
    clear hW hn hc
    conv => arg 5; rw [hx0]
    clear hx0
    refine wp_region_extW (by kernel_rfl) (by kernel_rfl) ?_
    repeat (go_big_quiet_step (fail))
    refine wpQuiet_nil ?_
    rintro _ ⟨x1, rfl⟩
    go_wp2
    go_ret
    exact RetE.fin (hE.trans x1.h) rfl
  · have hm2 : (X.rough.length : Int) - 1 < qq := by omega
    have hm3 : (X.rough.length : Int) - 1 = (ii : Int) := by omega
    have hif : (if (ii : Int) < qq then (ii : Int) else qq) = (ii : Int) := if_pos (by omega)
    have hw3 : IntKind.i64.wrap (ii : Int) = (ii : Int) := by rw [IntKind.wrap_i64]; omega
    clear hI hX hm hm2 hw1
    go_enter Try.func105, Try.ntmps105
    go_upto_region 1 with (fail)
    have hn := heap_new w (.cells #[.int .i64 X.weeks, .int .i64 X.price, .int .i64 X.age, .int .i64 X.step, .slice (some ⟨b, o, none⟩) X.rough.length c, .slice q X.recs.length d] 88)
    obtain ⟨W, hW⟩ : ∃ W, W = w.alloc (.cells #[.int .i64 X.weeks, .int .i64 X.price, .int .i64 X.age, .int .i64 X.step, .slice (some ⟨b, o, none⟩) X.rough.length c, .slice q X.recs.length d] 88) := ⟨_, rfl⟩
    have hE : Ext w W := by rw [hW]; exact Ext.alloc (Ext.refl w) _
    rw [← hW] at hn ⊢
    have q3 := ExtW.cell (v := .int .i64 X.step) (cell_of_heap hn 3)
    have q4 := ExtW.cell (v := .slice (some ⟨b, o, none⟩) X.rough.length c) (cell_of_heap hn 4)
    have qc := ExtW.cell (hE.cell hc)
    obtain ⟨x0, hx0⟩ := ExtW.of (Ext.refl W)
    clear hW hn hc
    conv => arg 5; rw [hx0]
    clear hx0
    refine wp_region_extW (by kernel_rfl) (by kernel_rfl) ?_
    repeat (go_big_quiet_step (fail))
    refine wpQuiet_nil ?_
    rintro _ ⟨x1, rfl⟩
    go_wp2
    go_ret
    exact RetE.fin (hE.trans x1.h) rfl

def PlayPost (X : Wr) (B o : Nat) (cs : Array Value) (t : TypeId) (a : Int) (n : Nat) (w : World) (e : Ending) (w' : World) : Prop :=
  e = .returned (.int .i64 (grindW X a n)) ∧ w'.heap[B]? = some (.cells (cs.setIfInBounds o (.int .i64 (a + n))) t (0, 0)) ∧ Fr (fun k => k = B) w w'

set_option maxHeartbeats 1600000 in
theorem play03 (v : Value) (X : Wr) (B o : Nat) (cs : Array Value) (t : TypeId) (a : Int) (n : Nat) (w : World) (hv : WrV w v X) (hX : ValidW X) (hB : w.heap[B]? = some (.cells cs t (0, 0))) (hc : cs[o]? = some (.int .i64 a)) (ha : 0 ≤ a) (hb : a ≤ 100000) (hn : n ≤ 99)
    (hR : ∀ w', Fr (fun k => k = B) w w' → WrV w' v X) :
    Calls Try.prog 89 #[.pointer (some ⟨B, o, none⟩), v, .int .i64 n] w (PlayPost X B o cs t a n w) := by
  have hbd := fun k => grindW_bd hX ha k
  have hrb := fun (k : Nat) => roughW_bd hX (a := a + k) (by omega)
  have HX := Lib.hid hX
  have HR := Lib.hid hR
  have hro : ∀ (k : Nat) w', k ≤ n → WrV w' v X → Calls Try.prog 105 #[v, .int .i64 (a + k)] w' (RetE (.int .i64 (roughW X (a + k))) w') := fun k w' hk hw => rough03 v X (a + k) w' hw HX.out (by omega) (by omega)
  obtain ⟨p, c, q, d, rfl, h1, h2⟩ := hv
  have HRO := Lib.hid hro
  have HBD := Lib.hid hbd
  have HRB := Lib.hid hrb
  have HC := Lib.hid hc
  have hoB : o < cs.size := (Array.getElem?_eq_some_iff.1 hc).1
  clear h1 h2 hX hR hro hbd hrb hc
  go_enter Try.func89, Try.ntmps89
  go_upto_region 1 with (fail)
  have hn1 := heap_new w (.cells #[.int .i64 X.weeks, .int .i64 X.price, .int .i64 X.age, .int .i64 X.step, .slice p X.rough.length c, .slice q X.recs.length d] 88)
  obtain ⟨W, hW⟩ : ∃ W, W = w.alloc (.cells #[.int .i64 X.weeks, .int .i64 X.price, .int .i64 X.age, .int .i64 X.step, .slice p X.rough.length c, .slice q X.recs.length d] 88) := ⟨_, rfl⟩
  have hE : Ext w W := by rw [hW]; exact Ext.alloc (Ext.refl w) _
  have hBw : B < w.heap.size := (Array.getElem?_eq_some_iff.1 hB).1
  have hsW : W.heap.size = w.heap.size + 1 := by rw [hW]; simp
  have hB1 := (Below.block hE _ hBw).trans hB
  rw [← hW] at hn1 ⊢
  clear hW hB
  go_wp2
  go_loopw [7, 9] (fun g i wr => ∃ k : Nat, k ≤ n ∧ i = .int .i64 k ∧ g = .int .i64 (grindW X a k) ∧ wr.heap[B]? = some (.cells (cs.setIfInBounds o (.int .i64 (a + k))) t (0, 0)) ∧ Fr (fun k => k = B) W wr) (fun _ i _ => n - (intOf i).toNat)
  case atStart =>
    refine ⟨0, Nat.zero_le _, rfl, rfl, ?_, Fr.refl _ _⟩
    rw [hB1, show a + ((0 : Nat) : Int) = a from by simp]
    have h1 := HC.out
    congr 2
    apply Array.ext (by simp)
    intro i hi1 hi2
    rw [Array.getElem_setIfInBounds]
    split
    · next e => subst e; rw [Array.getElem?_eq_some_iff] at h1; exact h1.2
    · rfl
  case round =>
    obtain ⟨k, hk, rfl, rfl, hBk, hFk⟩ := hrel
    have hWk : Fr (fun k => k = B) w wr := (hE.fr _).trans hFk
    have hkB : wr.cell? ⟨B, o, none⟩ = some (.int .i64 (a + k)) := by rw [cell_of_heap hBk o]; simp [hoB]
    have rB := ExtW.cell hkB
    have hne : ¬ w.heap.size = B := by omega
    have n0 := ExtW.cell (hFk.cell (v := .int .i64 X.weeks) (cell_of_heap hn1 0) hne)
    have n1 := ExtW.cell (hFk.cell (v := .int .i64 X.price) (cell_of_heap hn1 1) hne)
    have n2 := ExtW.cell (hFk.cell (v := .int .i64 X.age) (cell_of_heap hn1 2) hne)
    have n3 := ExtW.cell (hFk.cell (v := .int .i64 X.step) (cell_of_heap hn1 3) hne)
    have n4 := ExtW.cell (hFk.cell (v := .slice p X.rough.length c) (cell_of_heap hn1 4) hne)
    have n5 := ExtW.cell (hFk.cell (v := .slice q X.recs.length d) (cell_of_heap hn1 5) hne)
    have HBK := Lib.hid hBk
    have hBwr : B < wr.heap.size := (Array.getElem?_eq_some_iff.1 hBk).1
    have HF := Lib.hid hFk
    have HWK := Lib.hid hWk
    have hbk := HBD.out k
    have hrk := HRB.out k
    obtain ⟨r, hr⟩ : ∃ r, r = roughW X (a + k) := ⟨_, rfl⟩
    obtain ⟨g, hg⟩ : ∃ g, g = grindW X a k := ⟨_, rfl⟩
    have HCR := Lib.hid (fun y : ExtW wr => ExtW.call (HRO.out k y.w hk (WrV.mono _ _ _ _ y.h (HR.out _ HWK.out))))
    rw [← hr] at hrk HCR
    rw [← hg] at hbk
    have HGR := Lib.hid hr
    have HGG := Lib.hid hg
    conv => arg 4; rw [← hg]
    clear hkB hBk hFk hWk hr hg hB1 hn1
    by_cases hlt : k < n
    · obtain ⟨y0, hy0⟩ := ExtW.of (Ext.refl wr)
      conv => arg 5; rw [hy0]
      clear hy0
      go_upto_region 4 with (fail)
      refine wp_region_extW (by kernel_rfl) (by kernel_rfl) ?_
      repeat (go_big_quiet_step ((go_at_call 105; exact HCR.out _)))
      refine wpQuiet_nil ?_
      rintro _ ⟨y1, rfl⟩
      have hB2 := (Below.block y1.h B hBwr).trans HBK.out
      have hf := cell_frozen hB2 o
      have HB2 := Lib.hid hB2
      clear hB2
      go_wp2
      go_roundw
      case rel =>
        refine ⟨k + 1, by omega, by go_num, ?_, ?_, ?_⟩
        · rw [HGG.out, HGR.out]; rfl
        · refine heap_set HB2.out ?_
          rw [show a + ((k + 1 : Nat) : Int) = a + k + 1 from by omega]
          simp
        · exact (HF.out.trans (y1.h.fr _)).set rfl
      case measure => simp [intOf]; omega
    · obtain rfl : k = n := by omega
      go_wp2
      go_ret
      exact ⟨by rw [HGG.out]; rfl, HBK.out, HWK.out⟩
end Go.Proofs.Ytkcilgjkdiopnaa
