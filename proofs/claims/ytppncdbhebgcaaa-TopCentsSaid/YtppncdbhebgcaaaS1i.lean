
/- TopCents: the chapter's example, settled. -/
import Derived.Test.YtppncdbhebgcaaaS1g
namespace Go.Proofs.Ytppncdbhebgcaaa
open Go.RowKit

theorem exampleEnd10 {W : World} {s : Nat} {a : Act} {x0 x1 x2 : Value} {ty : TypeId} {R : Ending → World → Prop} (hm : W.heap[s]? = some (.cells #[x0, x1, x2] ty))
    (ha : a.tmps[0]? = some (.pointer (some ⟨s, 0, none⟩))) (hd : a.defers = [])
    (h : R (.returned (.agg #[x0, x1, x2])) W) : bodyPost Try.prog Try.f22 R .ret a W := by
  have c0 := cell_of_heap hm 0
  have c1 := cell_of_heap hm 1
  have c2 := cell_of_heap hm 2
  simp at c0 c1 c2
  refine bodyPost_ret (v := .agg #[x0, x1, x2]) ?_ hd h
  cases a with
  | mk tm df =>
    simp only at ha
    simp [results, Try.results22, go_sem, ha, c0, c1, c2]
theorem ex10_fin {w W0 A : World} {s0 z : Nat} (hs : w.heap.size ≤ s0) (hE : Ext w W0) (hz : z = W0.heap.size) (hm : W0.heap[s0]? = some (.cells #[.int .i64 0, .slice none 0 0, .slice none 0 0] 28))
    (hA : A = (((W0.alloc (.cells #[.int .i64 0, .int .i64 50, .int .i64 1, .int .i64 50] 104)).alloc (.cells #[.int .i64 1, .int .i64 30, .int .i64 2, .int .i64 70] 104)).alloc
      (.cells #[.int .i64 3, .slice (some ⟨z, 0, none⟩) 2 2, .int .i64 1, .slice (some ⟨z + 1, 0, none⟩) 2 2] 72)).alloc (.cells #[.int .i64 0, .int .i64 40, .int .i64 0] 3)) :
    ∃ B, B = ((A.setCell ⟨s0, 0, none⟩ (.int .i64 100)).setCell ⟨s0, 1, none⟩ (.slice (some ⟨z + 1 + 1, 0, none⟩) 2 2)).setCell ⟨s0, 2, none⟩ (.slice (some ⟨z + 1 + 1 + 1, 0, none⟩) 3 3) ∧
      B.heap[s0]? = some (.cells #[.int .i64 100, .slice (some ⟨z + 1 + 1, 0, none⟩) 2 2, .slice (some ⟨z + 1 + 1 + 1, 0, none⟩) 3 3] 28) ∧ Ext w B ∧
      RyV B (.agg #[.int .i64 100, .slice (some ⟨z + 1 + 1, 0, none⟩) 2 2, .slice (some ⟨z + 1 + 1 + 1, 0, none⟩) 3 3]) exR := by
  obtain ⟨A1, hA1⟩ : ∃ A1, A1 = W0.alloc (.cells #[.int .i64 0, .int .i64 50, .int .i64 1, .int .i64 50] 104) := ⟨_, rfl⟩
  obtain ⟨A2, hA2⟩ : ∃ A2, A2 = A1.alloc (.cells #[.int .i64 1, .int .i64 30, .int .i64 2, .int .i64 70] 104) := ⟨_, rfl⟩
  obtain ⟨A3, hA3⟩ : ∃ A3, A3 = A2.alloc (.cells #[.int .i64 3, .slice (some ⟨z, 0, none⟩) 2 2, .int .i64 1, .slice (some ⟨z + 1, 0, none⟩) 2 2] 72) := ⟨_, rfl⟩
  rw [← hA1, ← hA2, ← hA3] at hA
  have z1 : A1.heap.size = z + 1 := by rw [hA1, size_alloc, hz]
  have z2 : A2.heap.size = z + 1 + 1 := by rw [hA2, size_alloc, z1]
  have z3 : A3.heap.size = z + 1 + 1 + 1 := by rw [hA3, size_alloc, z2]
  have x1 : Ext W0 A1 := by rw [hA1]; exact (Ext.refl _).alloc _
  have x2 : Ext A1 A2 := by rw [hA2]; exact (Ext.refl _).alloc _
  have x3 : Ext A2 A3 := by rw [hA3]; exact (Ext.refl _).alloc _
  have x4 : Ext A3 A := by rw [hA]; exact (Ext.refl _).alloc _
  have hlt : s0 < z := by rw [hz]; exact (Array.getElem?_eq_some_iff.1 hm).1
  have n0 : A.heap[s0]? = some (.cells #[.int .i64 0, .slice none 0 0, .slice none 0 0] 28) := heap_ext3 hm (x1.trans (x2.trans (x3.trans x4)))
  have n1 : A.heap[z]? = some (.cells #[.int .i64 0, .int .i64 50, .int .i64 1, .int .i64 50] 104) := heap_ext3 (by rw [hz, hA1]; exact heap_new _ _) (x2.trans (x3.trans x4))
  have n2 : A.heap[z + 1]? = some (.cells #[.int .i64 1, .int .i64 30, .int .i64 2, .int .i64 70] 104) := heap_ext3 (by rw [← z1, hA2]; exact heap_new _ _) (x3.trans x4)
  have n3 : A.heap[z + 1 + 1]? = some (.cells #[.int .i64 3, .slice (some ⟨z, 0, none⟩) 2 2, .int .i64 1, .slice (some ⟨z + 1, 0, none⟩) 2 2] 72) := heap_ext3 (by rw [← z2, hA3]; exact heap_new _ _) x4
  have n4 : A.heap[z + 1 + 1 + 1]? = some (.cells #[.int .i64 0, .int .i64 40, .int .i64 0] 3) := by rw [← z3, hA]; exact heap_new _ _
  obtain ⟨B, hB⟩ : ∃ B, B = ((A.setCell ⟨s0, 0, none⟩ (.int .i64 100)).setCell ⟨s0, 1, none⟩ (.slice (some ⟨z + 1 + 1, 0, none⟩) 2 2)).setCell ⟨s0, 2, none⟩ (.slice (some ⟨z + 1 + 1 + 1, 0, none⟩) 3 3) := ⟨_, rfl⟩
  have k : ∀ (b : Nat) (o : Obj), b ≠ s0 → A.heap[b]? = some o → B.heap[b]? = some o := fun b o hb ho => by rw [hB]; exact heap_set_ne hb (heap_set_ne hb (heap_set_ne hb ho))
  have k1 := k _ _ (by omega) n1
  have k2 := k _ _ (by omega) n2
  have k3 := k _ _ (by omega) n3
  have k4 := k _ _ (by omega) n4
  refine ⟨B, hB, by rw [hB]; exact heap_set (heap_set (heap_set n0 rfl) rfl) rfl, ?_, some ⟨z + 1 + 1, 0, none⟩, 2, some ⟨z + 1 + 1 + 1, 0, none⟩, 3, rfl, fun i hi => ?_, IntsAt.cells [0, 40, 0] k4⟩
  · rw [hB]
    exact Ext.setCell (Ext.setCell (Ext.setCell (hE.trans (x1.trans (x2.trans (x3.trans x4)))) (p := ⟨s0, 0, none⟩) (by show w.heap.size ≤ s0; omega) _) (p := ⟨s0, 1, none⟩) (by show w.heap.size ≤ s0; omega) _) (p := ⟨s0, 2, none⟩) (by show w.heap.size ≤ s0; omega) _
  · have hi2 : i < 2 := hi
    rcases (by omega : i = 0 ∨ i = 1) with rfl | rfl
    · exact ⟨z + 1 + 1, 0, some ⟨z, 0, none⟩, 2, rfl, cell_of_heap k3 0, cell_of_heap k3 1, PairsAt.cells (l := [(0, 50), (1, 50)]) (t := 104) (f := (0, 0)) k1⟩
    · exact ⟨z + 1 + 1, 0, some ⟨z + 1, 0, none⟩, 2, rfl, cell_of_heap k3 2, cell_of_heap k3 3, PairsAt.cells (l := [(1, 30), (2, 70)]) (t := 104) (f := (0, 0)) k2⟩

set_option maxRecDepth 20000 in
set_option maxHeartbeats 1600000 in
theorem Example10 (w : World) : Calls Try.prog 22 #[] w (fun e w' => ∃ v', e = .returned v' ∧ Ext w w' ∧ RyV w' v' exR) := by
  go_enter Try.func22, Try.ntmps22
  go_upto_region 1 with (fail)
  obtain ⟨s0, hs0⟩ : ∃ s0, s0 = w.heap.size := ⟨_, rfl⟩
  obtain ⟨W0, hW0⟩ : ∃ W0, W0 = w.alloc (.cells #[.int .i64 0, .slice none 0 0, .slice none 0 0] 28) := ⟨_, rfl⟩
  have m0 : W0.heap[s0]? = some (.cells #[.int .i64 0, .slice none 0 0, .slice none 0 0] 28) := by rw [hs0, hW0]; exact heap_new _ _
  have hE0 : Ext w W0 := by rw [hW0]; exact (Ext.refl w).alloc _
  rw [← hs0, ← hW0]
  have HX : ∀ o1 o2 o3 o4 : Obj, ((((W0.alloc o1).alloc o2).alloc o3).alloc o4).heap[s0]? = some (.cells #[.int .i64 0, .slice none 0 0, .slice none 0 0] 28) := fun o1 o2 o3 o4 => heap_ext3 m0 (((((Ext.refl _).alloc o1).alloc o2).alloc o3).alloc o4)
  have c0 : ∀ o1 o2 o3 o4 : Obj, ((((W0.alloc o1).alloc o2).alloc o3).alloc o4).cell? ⟨s0, 0, none⟩ = some (.int .i64 0) := fun o1 o2 o3 o4 => cell_of_heap (HX o1 o2 o3 o4) 0
  have c1 : ∀ o1 o2 o3 o4 : Obj, ((((W0.alloc o1).alloc o2).alloc o3).alloc o4).cell? ⟨s0, 1, none⟩ = some (.slice none 0 0) := fun o1 o2 o3 o4 => cell_of_heap (HX o1 o2 o3 o4) 1
  have c2 : ∀ o1 o2 o3 o4 : Obj, ((((W0.alloc o1).alloc o2).alloc o3).alloc o4).cell? ⟨s0, 2, none⟩ = some (.slice none 0 0) := fun o1 o2 o3 o4 => cell_of_heap (HX o1 o2 o3 o4) 2
  have f0 : ∀ o1 o2 o3 o4 : Obj, ((((W0.alloc o1).alloc o2).alloc o3).alloc o4).frozen? ⟨s0, 0, none⟩ = false := fun o1 o2 o3 o4 => cell_frozen (HX o1 o2 o3 o4) 0
  have f1 : ∀ o1 o2 o3 o4 : Obj, ((((W0.alloc o1).alloc o2).alloc o3).alloc o4).frozen? ⟨s0, 1, none⟩ = false := fun o1 o2 o3 o4 => cell_frozen (HX o1 o2 o3 o4) 1
  have f2 : ∀ o1 o2 o3 o4 : Obj, ((((W0.alloc o1).alloc o2).alloc o3).alloc o4).frozen? ⟨s0, 2, none⟩ = false := fun o1 o2 o3 o4 => cell_frozen (HX o1 o2 o3 o4) 2
  have HM := Lib.hid m0
  have HE := Lib.hid hE0
  have HS := Lib.hid hs0
  obtain ⟨z, hz⟩ : ∃ z, z = W0.heap.size := ⟨_, rfl⟩
  have HZ := Lib.hid hz
  clear hW0 m0 hE0 hs0 HX
  go_wp2
  rw [← hz]
  obtain ⟨B, hB, h1, h2, h3⟩ := ex10_fin (s0 := s0) (by have := HS.out; omega) HE.out HZ.out HM.out rfl
  rw [← hB]
  exact exampleEnd10 h1 rfl rfl ⟨_, rfl, h2, h3⟩

set_option maxRecDepth 20000 in
set_option maxHeartbeats 1600000 in
theorem settled10 (w : World) : Calls Try.prog 8 #[] w (RetE (.bool true) w) := by
  have HEX := Lib.hid (Example10 w)
  have HSH := Lib.hid (fun y v (hv : RyV y v exR) => (by
    have h := Shares10 exR v y hv exR_ok (by decide) (by rw [exR_plays]; decide)
    rw [exR_all, exR_of] at h
    exact h : Calls Try.prog 14 #[v] y (fun e w' => ∃ g l, e = .returned (.tuple #[.slice (some ⟨g, 0, none⟩) 3 3, .int .i64 0]) ∧ l.length = 3 ∧ Ext y w' ∧ IsShares 100 400 [150, 180, 70] l ∧ IntsAt w' (some ⟨g, 0, none⟩) l)))
  go_enter Try.func8, Try.ntmps8
  go_upto_region 2 with (first
    | (go_at_call 22; refine HEX.out.mono ?_; rintro e w1 ⟨v1, rfl, hE1, hv1⟩)
    | (go_at_call 14; refine (HSH.out _ _ hv1).mono ?_; rintro e w2 ⟨g, l, rfl, hl, hE2, hS2, hI2⟩))
  obtain rfl := exR_shares hS2
  have HI := Lib.hid hI2
  have HE := Lib.hid (hE1.trans hE2)
  clear hE1 hE2 hS2 hI2 hl hv1
  go_wp2_with (fail)
  have HA : Ext w2 (w2.alloc (.cells #[.int .i64 38, .int .i64 45, .int .i64 17] 3)) := Ext.alloc (Ext.refl _) _
  have hsi : Calls Try.prog 23 #[.slice (some ⟨g, 0, none⟩) 3 3, .slice (some ⟨w2.heap.size, 0, none⟩) 3 3] (w2.alloc (.cells #[.int .i64 38, .int .i64 45, .int .i64 17] 3)) (RetE (.bool true) _) :=
    SameInts02 (some ⟨g, 0, none⟩) (some ⟨w2.heap.size, 0, none⟩) [38, 45, 17] [38, 45, 17] 3 3 _ (by decide) (by decide) (HI.out.ext HA) (IntsAt.cells [38, 45, 17] (heap_new w2 _))
  refine hsi.mono ?_
  rintro e w8 ⟨rfl, hE8⟩
  have HE8 := Lib.hid (HE.out.trans (HA.trans hE8))
  clear HA hsi hE8
  go_wp2
  go_ret
  exact RetE.fin HE8.out rfl
end Go.Proofs.Ytppncdbhebgcaaa
