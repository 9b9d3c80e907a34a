
/- Charts: the walk of works. -/
import Derived.Test.YtaoamnhchidjfaaDoorC8f
namespace Go.Proofs.YtaoamnhchidjfaaDoor
open Go.RowKit

theorem ExtW.callN {a : World} {P : Program} {f : FuncId} {args : Array Value} {l : List Int} {n : Int} {x : ExtW a} (h : Calls P f args x.w (RetN l n x.w)) :
    Calls P f args x.w fun e w'' => ∃ (p : Option Addr) (c : Nat), e = .returned (.tuple #[.slice p l.length c, .int .i64 n]) ∧ ∃ y : ExtW a, w'' = y.w ∧ Ext x.w y.w ∧ IntsAt y.w p l := by
  refine h.mono fun _ w'' ⟨p, c, he, hI, hE⟩ => ?_
  exact ⟨p, c, he, ⟨w'', x.h.trans hE⟩, rfl, hE, hI⟩

set_option maxRecDepth 20000 in
set_option maxHeartbeats 4000000 in
theorem works06 (w : World) (hT : TabW w) : Calls Tryd.prog 9 #[] w (RetE (.bool true) w) := by
  have HT := Lib.hid hT
  clear hT
  go_enter Tryd.func9, Tryd.ntmps9
  go_wp2_with fail
  refine (Example06 w).mono ?_
  rintro e w1 ⟨v, rfl, hE1, ⟨p, c, q, d, rfl, hp, hq⟩⟩
  have HE1 := Lib.hid hE1
  have HV1 := Lib.hid (show ∀ y, Ext w1 y → ChV y (.agg #[.slice p exCh.meters.length c, .slice q exCh.extra.length d, .int .i64 exCh.frm, .int .i64 exCh.tto]) exCh from fun y h => ⟨p, c, q, d, rfl, hp.ext h, hq.ext h⟩)
  clear hE1 hp hq
  go_upto_region 2 with (fail)
  obtain ⟨s1, hs1⟩ : ∃ s1, s1 = w1.heap.size := ⟨_, rfl⟩
  obtain ⟨W, hW⟩ : ∃ W, W = w1.alloc (.cells #[.slice p exCh.meters.length c, .slice q exCh.extra.length d, .int .i64 exCh.frm, .int .i64 exCh.tto] 25) := ⟨_, rfl⟩
  have m1 : W.heap[s1]? = some (.cells #[.slice p exCh.meters.length c, .slice q exCh.extra.length d, .int .i64 exCh.frm, .int .i64 exCh.tto] 25) := by rw [hs1, hW]; exact heap_new _ _
  have hE : Ext w1 W := by rw [hW]; exact Ext.alloc (Ext.refl _) _
  rw [← hs1, ← hW]
  have a0 := ExtW.cell (v := .slice p exCh.meters.length c) (cell_of_heap m1 0)
  have a1 := ExtW.cell (v := .slice q exCh.extra.length d) (cell_of_heap m1 1)
  have a2 := ExtW.cell (v := .int .i64 exCh.frm) (cell_of_heap m1 2)
  have a3 := ExtW.cell (v := .int .i64 exCh.tto) (cell_of_heap m1 3)
  have HM1 := Lib.hid m1
  have HE := Lib.hid (HE1.out.trans hE)
  have HVW := Lib.hid (fun y (h : Ext W y) => HV1.out y (hE.trans h))
  have HTW := Lib.hid (HT.out.ext (HE1.out.trans hE))
  have HNU := Lib.hid (fun x : ExtW W => ExtW.callN (l := [40, 140]) (n := 0) (x := x) (by
    have h := Numbers06 exCh 0 _ x.w (HVW.out x.w x.h) sm_exCh (HTW.out.ext x.h)
    rw [numsV_exCh.1, numsV_exCh.2] at h
    exact h))
  have HRK := Lib.hid (fun x : ExtW W => ExtW.callX (v := .tuple #[.agg #[.int .i64 1, .int .i64 2], .int .i64 0]) (x := x) (by
    have h := Rank06 exCh 2 _ x.w (HVW.out x.w x.h) sm_exCh (HTW.out.ext x.h)
    rw [rkV_exCh.1, rkV_exCh.2.1, rkV_exCh.2.2] at h
    exact h))
  obtain ⟨x0, hx0⟩ := ExtW.of (Ext.refl W)
  clear hW m1 hE hs1
  conv => arg 5; rw [hx0]
  clear hx0
  go_upto_region 4 with (first
    | (go_at_call 26; refine (HNU.out _).mono ?_; rintro e w2 ⟨pl, cl, rfl, x1, rfl, hE2, hl2⟩)
    | (go_at_call 10; refine (HRK.out _).mono ?_; rintro e w2 ⟨rfl, x2, rfl, hE3⟩))
  obtain ⟨s3, hs3⟩ : ∃ s3, s3 = x2.w.heap.size := ⟨_, rfl⟩
  obtain ⟨W3, hW3⟩ : ∃ W3, W3 = x2.w.alloc (.cells #[.int .i64 1, .int .i64 2] 32) := ⟨_, rfl⟩
  have hE3' : Ext W W3 := by rw [hW3]; exact x2.h.alloc _
  have m1 := heap_ext3 HM1.out hE3'
  have m3 : W3.heap[s3]? = some (.cells #[.int .i64 1, .int .i64 2] 32) := by rw [hW3, hs3]; exact heap_new _ _
  rw [← hs3, ← hW3]
  have HL := Lib.hid (show IntsAt W3 pl [40, 140] from by rw [hW3]; exact (hl2.ext hE3).ext (Ext.alloc (Ext.refl _) _))
  clear hW3 hE2 hl2 hE3 hs3 a0 a1 a2 a3 HNU HRK
  have a0 := ExtW.cell (v := .slice p exCh.meters.length c) (cell_of_heap m1 0)
  have a1 := ExtW.cell (v := .slice q exCh.extra.length d) (cell_of_heap m1 1)
  have a2 := ExtW.cell (v := .int .i64 exCh.frm) (cell_of_heap m1 2)
  have a3 := ExtW.cell (v := .int .i64 exCh.tto) (cell_of_heap m1 3)
  have HM3 := Lib.hid m3
  have HE3 := Lib.hid hE3'
  have HMA := Lib.hid (fun x : ExtW W3 => ExtW.callL (l := [0, 2]) (n := 0) (x := x) (by
    have h := May06 exCh 1 _ x.w (HVW.out x.w (hE3'.trans x.h)) sm_exCh (HTW.out.ext (hE3'.trans x.h)) (by decide)
    rw [mayV_exCh.1, mayV_exCh.2] at h
    exact h))
  have HND := Lib.hid (fun x : ExtW W3 => ExtW.callX (v := .tuple #[.int .i64 91, .int .i64 0]) (x := x) (by
    have h := Needs06 exCh 1 1 _ x.w (HVW.out x.w (hE3'.trans x.h)) sm_exCh (HTW.out.ext (hE3'.trans x.h)) (by decide)
    rw [needV_exCh.1, needV_exCh.2] at h
    exact h))
  have HOR := Lib.hid (fun x : ExtW W3 => ExtW.callX (v := .tuple #[.int .i64 2, .int .i64 0]) (x := x) (by
    have h := Orders06 exCh _ x.w (HVW.out x.w (hE3'.trans x.h)) sm_exCh (HTW.out.ext (hE3'.trans x.h))
    rw [ordV_exCh.1, ordV_exCh.2] at h
    exact h))
  obtain ⟨y0, hy0⟩ := ExtW.of (Ext.refl W3)
  clear m1 m3 hE3'
  conv => arg 5; rw [hy0]
  clear hy0
  go_upto_region 7 with (first
    | (go_at_call 12; refine (HMA.out _).mono ?_; rintro e w2 ⟨pm, cm, rfl, y1, rfl, hEm, hlm, -⟩)
    | (go_at_call 17; refine (HND.out _).mono ?_; rintro e w2 ⟨rfl, y2, rfl, hEn⟩)
    | (go_at_call 20; refine (HOR.out _).mono ?_; rintro e w2 ⟨rfl, y3, rfl, hEo⟩))
  obtain ⟨W7, hW7⟩ : ∃ W7, W7 = y3.w := ⟨_, rfl⟩
  have hE7 : Ext W3 W7 := by rw [hW7]; exact y3.h
  have m3 := heap_ext3 HM3.out hE7
  have HLM := Lib.hid (show IntsAt W7 pm [0, 2] from by rw [hW7]; exact (hlm.ext hEn).ext hEo)
  have HLN := Lib.hid (HL.out.ext hE7)
  rw [← hW7]
  have HE7 := Lib.hid (HE.out.trans (HE3.out.trans hE7))
  have c0 : W7.cell? ⟨s3, 0, none⟩ = some (.int .i64 1) := cell_of_heap m3 0
  have c1 : W7.cell? ⟨s3, 1, none⟩ = some (.int .i64 2) := cell_of_heap m3 1
  clear hW7 m3 hE7 HMA HND HOR hEm hlm hEn hEo a0 a1 a2 a3
  go_wp2_with fail
  have HA : Ext W7 (W7.alloc (.cells #[.int .i64 40, .int .i64 140] 3)) := Ext.alloc (Ext.refl _) _
  have hsi : Calls Tryd.prog 19 #[.slice pl 2 cl, .slice (some ⟨W7.heap.size, 0, none⟩) 2 2] (W7.alloc (.cells #[.int .i64 40, .int .i64 140] 3)) (RetE (.bool true) _) :=
    SameInts02 pl (some ⟨W7.heap.size, 0, none⟩) [40, 140] [40, 140] cl 2 _ (by decide) (by decide) (HLN.out.ext HA) (IntsAt.cells [40, 140] (heap_new W7 _))
  refine hsi.mono ?_
  rintro e w8 ⟨rfl, hE8⟩
  have g0 := (HA.trans hE8).cell c0
  have g1 := (HA.trans hE8).cell c1
  have HE8 := Lib.hid (HE7.out.trans (HA.trans hE8))
  have HLM8 := Lib.hid (HLM.out.ext (HA.trans hE8))
  clear c0 c1 HA hsi hE8
  go_wp2_with fail
  have HA : Ext w8 (w8.alloc (.cells #[.int .i64 0, .int .i64 2] 3)) := Ext.alloc (Ext.refl _) _
  have hsi : Calls Tryd.prog 19 #[.slice pm 2 cm, .slice (some ⟨w8.heap.size, 0, none⟩) 2 2] (w8.alloc (.cells #[.int .i64 0, .int .i64 2] 3)) (RetE (.bool true) _) :=
    SameInts02 pm (some ⟨w8.heap.size, 0, none⟩) [0, 2] [0, 2] cm 2 _ (by decide) (by decide) (HLM8.out.ext HA) (IntsAt.cells [0, 2] (heap_new w8 _))
  refine hsi.mono ?_
  rintro e w9 ⟨rfl, hE9⟩
  have HE9 := Lib.hid (HE8.out.trans (HA.trans hE9))
  clear HA hsi hE9 g0 g1
  go_wp2
  go_ret
  exact RetE.fin HE9.out rfl
end Go.Proofs.YtaoamnhchidjfaaDoor
