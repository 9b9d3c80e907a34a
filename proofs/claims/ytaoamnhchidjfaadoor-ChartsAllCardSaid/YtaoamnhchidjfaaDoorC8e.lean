
/- Charts: the chapter's example. -/
import Derived.Test.YtaoamnhchidjfaaDoorC8d
namespace Go.Proofs.YtaoamnhchidjfaaDoor
open Go.RowKit

def exM2 : Mt := ⟨[(50, 52), (0, 0)], [], 0⟩
def exM3 : Mt := ⟨[(100, 100), (20, 20)], [], 0⟩
def exCh : Ch := ⟨[exM, exM2, exM3], [0, 0, 0], 0, 2⟩

theorem heap_quad {w : World} {b : Nat} {t : TypeId} {f : Nat × Nat} {a0 a1 a2 a3 x y z u : Value} (h : w.heap[b]? = some (.cells #[a0, a1, a2, a3] t f)) :
    ((((w.setCell ⟨b, 0, none⟩ x).setCell ⟨b, 1, none⟩ y).setCell ⟨b, 2, none⟩ z).setCell ⟨b, 3, none⟩ u).heap[b]? = some (.cells #[x, y, z, u] t f) := by
  exact heap_set (heap_set (heap_set (heap_set h rfl) rfl) rfl) rfl
theorem six_allocs' (w : World) (o1 o2 o3 o4 o5 o6 : Obj) : ((((((w.alloc o1).alloc o2).alloc o3).alloc o4).alloc o5).alloc o6).heap[w.heap.size + 1 + 1]? = some o3 ∧
    ((((((w.alloc o1).alloc o2).alloc o3).alloc o4).alloc o5).alloc o6).heap[w.heap.size + 1 + 1 + 1]? = some o4 ∧
    ((((((w.alloc o1).alloc o2).alloc o3).alloc o4).alloc o5).alloc o6).heap[w.heap.size + 1 + 1 + 1 + 1]? = some o5 ∧
    ((((((w.alloc o1).alloc o2).alloc o3).alloc o4).alloc o5).alloc o6).heap[w.heap.size + 1 + 1 + 1 + 1 + 1]? = some o6 := by
  refine ⟨heap_ext3 (heap_new3 w o1 o2 o3) ((((Ext.refl _).alloc o4).alloc o5).alloc o6), heap_ext3 (heap_new4 w o1 o2 o3 o4) (((Ext.refl _).alloc o5).alloc o6), heap_ext3 ?_ ((Ext.refl _).alloc o6), ?_⟩
  · have := heap_new4 (w.alloc o1) o2 o3 o4 o5
    rwa [size_alloc] at this
  · have := heap_new4 ((w.alloc o1).alloc o2) o3 o4 o5 o6
    rwa [size_alloc, size_alloc] at this
theorem six_allocs {w A : World} {o1 o2 o3 o4 o5 o6 : Obj} (hA : A = (((((w.alloc o1).alloc o2).alloc o3).alloc o4).alloc o5).alloc o6) : A.heap[w.heap.size + 1 + 1]? = some o3 ∧
    A.heap[w.heap.size + 1 + 1 + 1]? = some o4 ∧ A.heap[w.heap.size + 1 + 1 + 1 + 1]? = some o5 ∧ A.heap[w.heap.size + 1 + 1 + 1 + 1 + 1]? = some o6 := by
  rw [hA]
  exact six_allocs' w o1 o2 o3 o4 o5 o6
theorem PairsAt.off {w : World} {s0 : Nat} {t : TypeId} {p : Option Addr} {l : List (Int × Int)} (hm : w.heap[s0]? = some (.cells #[.slice none 0 0, .slice none 0 0, .int .i64 0, .int .i64 0] t)) (h : PairsAt w p l)
    {i : Nat} (hi : i < l.length) (hn : l[i].2 ≠ 0) : ∃ b o, p = some ⟨b, o, none⟩ ∧ b ≠ s0 := by
  obtain ⟨b, o, rfl, h1, h2⟩ := h i hi
  refine ⟨b, o, rfl, fun e => ?_⟩
  subst e
  rw [cell_of_heap hm] at h2
  rcases hk : (o + i * 2 + 1) with _ | _ | _ | _ | k
  all_goals rw [hk] at h2; simp at h2
  all_goals exact hn h2.symm
theorem exampleEnd06 {W : World} {s : Nat} {a : Act} {x0 x1 x2 x3 : Value} {ty : TypeId} {R : Ending → World → Prop} (hm : W.heap[s]? = some (.cells #[x0, x1, x2, x3] ty))
    (ha : a.tmps[0]? = some (.pointer (some ⟨s, 0, none⟩))) (hd : a.defers = [])
    (h : R (.returned (.agg #[x0, x1, x2, x3])) W) : bodyPost Tryd.prog Tryd.f25 R .ret a W := by
  have c0 := cell_of_heap hm 0
  have c1 := cell_of_heap hm 1
  have c2 := cell_of_heap hm 2
  have c3 := cell_of_heap hm 3
  simp at c0 c1 c2 c3
  refine bodyPost_ret (v := .agg #[x0, x1, x2, x3]) ?_ hd h
  cases a with
  | mk tm df =>
    simp only at ha
    simp [results, Tryd.results25, go_sem, ha, c0, c1, c2, c3]

theorem example_fin {w w1 : World} {s0 : Nat} {p1 p2 : Option Addr} {c1 c2 : Nat} (hs : w.heap.size ≤ s0) (hE : Ext w w1) (hm : w1.heap[s0]? = some (.cells #[.slice none 0 0, .slice none 0 0, .int .i64 0, .int .i64 0] 25))
    (hp1 : PairsAt w1 p1 exM.weeks) (hp2 : PairsAt w1 p2 exM.reads) (o1 o2 : Obj) (A : World)
    (hA : A = ((((((w1.alloc o1).alloc o2).alloc (.cells #[.int .i64 50, .int .i64 52, .int .i64 0, .int .i64 0] 32)).alloc (.cells #[.int .i64 100, .int .i64 100, .int .i64 20, .int .i64 20] 32)).alloc
      (.cells #[.slice p1 exM.weeks.length c1, .slice p2 exM.reads.length c2, .int .i64 exM.wrong, .slice (some ⟨w1.heap.size + 1 + 1, 0, none⟩) 2 2, .slice none 0 0, .int .i64 0, .slice (some ⟨w1.heap.size + 1 + 1 + 1, 0, none⟩) 2 2, .slice none 0 0, .int .i64 0] 61)).alloc
      (.cells #[.int .i64 0, .int .i64 0, .int .i64 0] 3))) :
    (((((A.setCell ⟨s0, 0, none⟩ (.slice (some ⟨w1.heap.size + 1 + 1 + 1 + 1, 0, none⟩) 3 3)).setCell ⟨s0, 1, none⟩ (.slice (some ⟨w1.heap.size + 1 + 1 + 1 + 1 + 1, 0, none⟩) 3 3)).setCell ⟨s0, 2, none⟩ (.int .i64 0)).setCell ⟨s0, 3, none⟩ (.int .i64 2)).heap[s0]?
      = some (.cells #[.slice (some ⟨w1.heap.size + 1 + 1 + 1 + 1, 0, none⟩) 3 3, .slice (some ⟨w1.heap.size + 1 + 1 + 1 + 1 + 1, 0, none⟩) 3 3, .int .i64 0, .int .i64 2] 25)) ∧
    Ext w ((((A.setCell ⟨s0, 0, none⟩ (.slice (some ⟨w1.heap.size + 1 + 1 + 1 + 1, 0, none⟩) 3 3)).setCell ⟨s0, 1, none⟩ (.slice (some ⟨w1.heap.size + 1 + 1 + 1 + 1 + 1, 0, none⟩) 3 3)).setCell ⟨s0, 2, none⟩ (.int .i64 0)).setCell ⟨s0, 3, none⟩ (.int .i64 2)) ∧
    ChV ((((A.setCell ⟨s0, 0, none⟩ (.slice (some ⟨w1.heap.size + 1 + 1 + 1 + 1, 0, none⟩) 3 3)).setCell ⟨s0, 1, none⟩ (.slice (some ⟨w1.heap.size + 1 + 1 + 1 + 1 + 1, 0, none⟩) 3 3)).setCell ⟨s0, 2, none⟩ (.int .i64 0)).setCell ⟨s0, 3, none⟩ (.int .i64 2))
      (.agg #[.slice (some ⟨w1.heap.size + 1 + 1 + 1 + 1, 0, none⟩) 3 3, .slice (some ⟨w1.heap.size + 1 + 1 + 1 + 1 + 1, 0, none⟩) 3 3, .int .i64 0, .int .i64 2]) exCh := by
  obtain ⟨z, hz⟩ : ∃ z, z = w1.heap.size := ⟨_, rfl⟩
  have hlt : s0 < z := by rw [hz]; exact (Array.getElem?_eq_some_iff.1 hm).1
  have hEA : Ext w1 A := by rw [hA]; exact ((((((Ext.refl w1).alloc _).alloc _).alloc _).alloc _).alloc _).alloc _
  have six := six_allocs hA
  rw [← hz] at six ⊢
  obtain ⟨i2, i3, i4, i5⟩ := six
  have hmA := heap_ext3 hm hEA
  have hpa1 := hp1.ext hEA
  have hpa2 := hp2.ext hEA
  obtain ⟨b1, u1, rfl, hb1⟩ := PairsAt.off hm hp1 (i := 0) (by decide) (by decide)
  obtain ⟨b2, u2, rfl, hb2⟩ := PairsAt.off hm hp2 (i := 0) (by decide) (by decide)
  obtain ⟨V, hV⟩ : ∃ V, V = (((A.setCell ⟨s0, 0, none⟩ (.slice (some ⟨z + 1 + 1 + 1 + 1, 0, none⟩) 3 3)).setCell ⟨s0, 1, none⟩ (.slice (some ⟨z + 1 + 1 + 1 + 1 + 1, 0, none⟩) 3 3)).setCell ⟨s0, 2, none⟩ (.int .i64 0)).setCell ⟨s0, 3, none⟩ (.int .i64 2) := ⟨_, rfl⟩
  have hfr : ∀ (b : Nat) (o : Obj), b ≠ s0 → A.heap[b]? = some o → V.heap[b]? = some o := fun b o hb h => by rw [hV]; exact heap_set_ne hb (heap_set_ne hb (heap_set_ne hb (heap_set_ne hb h)))
  have hF : Fr (fun k => k = s0) A V := by
    rw [hV]
    exact ((((Fr.refl (fun k => k = s0) A).set (c := s0) rfl).set (c := s0) rfl).set (c := s0) rfl).set (c := s0) rfl
  have hE' : Ext w V := by rw [hV]; exact Ext.setCell (p := ⟨s0, 3, none⟩) (Ext.setCell (p := ⟨s0, 2, none⟩) (Ext.setCell (p := ⟨s0, 1, none⟩) (Ext.setCell (p := ⟨s0, 0, none⟩) (hE.trans hEA) hs _) hs _) hs _) hs _
  have hq : V.heap[s0]? = some (.cells #[.slice (some ⟨z + 1 + 1 + 1 + 1, 0, none⟩) 3 3, .slice (some ⟨z + 1 + 1 + 1 + 1 + 1, 0, none⟩) 3 3, .int .i64 0, .int .i64 2] 25) := by rw [hV]; exact heap_quad hmA
  rw [← hV]
  have k2 : V.heap[z + 1 + 1]? = some (.cells (pairVs exM2.weeks).toArray 32) := hfr _ _ (by omega) i2
  have k3 : V.heap[z + 1 + 1 + 1]? = some (.cells (pairVs exM3.weeks).toArray 32) := hfr _ _ (by omega) i3
  have k4 := hfr _ _ (by omega) i4
  have k5 := hfr _ _ (by omega) i5
  refine ⟨hq, hE', _, _, _, _, rfl, ?_, ?_⟩
  · intro i hi
    rcases i with _ | _ | _ | i
    · exact ⟨_, _, _, _, _, _, rfl, cell_of_heap k4 0, cell_of_heap k4 1, cell_of_heap k4 2, hpa1.fr hF hb1, hpa2.fr hF hb2⟩
    · exact ⟨_, _, _, _, _, _, rfl, cell_of_heap k4 3, cell_of_heap k4 4, cell_of_heap k4 5, PairsAt.cells (l := exM2.weeks) k2, fun i hi => absurd hi (by simp [exCh, exM2])⟩
    · exact ⟨_, _, _, _, _, _, rfl, cell_of_heap k4 6, cell_of_heap k4 7, cell_of_heap k4 8, PairsAt.cells (l := exM3.weeks) k3, fun i hi => absurd hi (by simp [exCh, exM3])⟩
    · exact absurd hi (by simp [exCh])
  · intro i hi
    rcases i with _ | _ | _ | i
    · exact ⟨_, _, _, rfl, cell_of_heap k5 0, rfl⟩
    · exact ⟨_, _, _, rfl, cell_of_heap k5 1, rfl⟩
    · exact ⟨_, _, _, rfl, cell_of_heap k5 2, rfl⟩
    · exact absurd hi (by simp [exCh])

set_option maxRecDepth 20000 in
set_option maxHeartbeats 1600000 in
theorem Example06 (w : World) : Calls Tryd.prog 25 #[] w (fun e w' => ∃ v, e = .returned v ∧ Ext w w' ∧ ChV w' v exCh) := by
  have HX := Lib.hid (fun x : World => Example04 x)
  go_enter Tryd.func25, Tryd.ntmps25
  go_upto_region 1 with (fail)
  obtain ⟨s0, hs0⟩ : ∃ s0, s0 = w.heap.size := ⟨_, rfl⟩
  obtain ⟨W, hW⟩ : ∃ W, W = w.alloc (.cells #[.slice none 0 0, .slice none 0 0, .int .i64 0, .int .i64 0] 25) := ⟨_, rfl⟩
  have m0 : W.heap[s0]? = some (.cells #[.slice none 0 0, .slice none 0 0, .int .i64 0, .int .i64 0] 25) := by rw [hs0, hW]; exact heap_new _ _
  have HE : Hid (Ext w W) := Lib.hid (by rw [hW]; exact Ext.alloc (Ext.refl _) _)
  rw [← hs0, ← hW]
  have HM0 := Lib.hid m0
  have HS0 := Lib.hid hs0
  clear m0 hW hs0
  go_upto_region 2 with (go_at_call 46; refine (HX.out _).mono ?_; rintro e w1 ⟨u, v, rfl, hE1, hu, hv⟩; obtain ⟨p1, c1, p2, c2, rfl, hp1, hp2⟩ := hu; obtain ⟨p3, c3, p4, c4, rfl, hp3, hp4⟩ := hv)
  have hm1 := heap_ext3 HM0.out hE1
  have hmA := fun o1 o2 o3 o4 o5 o6 => heap_ext3 hm1 ((((((Ext.refl w1).alloc o1).alloc o2).alloc o3).alloc o4).alloc o5 |>.alloc o6)
  have d0 : ∀ o1 o2 o3 o4 o5 o6, ((((((w1.alloc o1).alloc o2).alloc o3).alloc o4).alloc o5).alloc o6).cell? ⟨s0, 0, none⟩ = some (.slice none 0 0) := fun o1 o2 o3 o4 o5 o6 => cell_of_heap (hmA o1 o2 o3 o4 o5 o6) 0
  have d1 : ∀ o1 o2 o3 o4 o5 o6, ((((((w1.alloc o1).alloc o2).alloc o3).alloc o4).alloc o5).alloc o6).cell? ⟨s0, 1, none⟩ = some (.slice none 0 0) := fun o1 o2 o3 o4 o5 o6 => cell_of_heap (hmA o1 o2 o3 o4 o5 o6) 1
  have d2 : ∀ o1 o2 o3 o4 o5 o6, ((((((w1.alloc o1).alloc o2).alloc o3).alloc o4).alloc o5).alloc o6).cell? ⟨s0, 2, none⟩ = some (.int .i64 0) := fun o1 o2 o3 o4 o5 o6 => cell_of_heap (hmA o1 o2 o3 o4 o5 o6) 2
  have d3 : ∀ o1 o2 o3 o4 o5 o6, ((((((w1.alloc o1).alloc o2).alloc o3).alloc o4).alloc o5).alloc o6).cell? ⟨s0, 3, none⟩ = some (.int .i64 0) := fun o1 o2 o3 o4 o5 o6 => cell_of_heap (hmA o1 o2 o3 o4 o5 o6) 3
  have b0 : ∀ o1 o2 o3 o4 o5 o6, ((((((w1.alloc o1).alloc o2).alloc o3).alloc o4).alloc o5).alloc o6).frozen? ⟨s0, 0, none⟩ = false := fun o1 o2 o3 o4 o5 o6 => cell_frozen (hmA o1 o2 o3 o4 o5 o6) 0
  have b1 : ∀ o1 o2 o3 o4 o5 o6, ((((((w1.alloc o1).alloc o2).alloc o3).alloc o4).alloc o5).alloc o6).frozen? ⟨s0, 1, none⟩ = false := fun o1 o2 o3 o4 o5 o6 => cell_frozen (hmA o1 o2 o3 o4 o5 o6) 1
  have b2 : ∀ o1 o2 o3 o4 o5 o6, ((((((w1.alloc o1).alloc o2).alloc o3).alloc o4).alloc o5).alloc o6).frozen? ⟨s0, 2, none⟩ = false := fun o1 o2 o3 o4 o5 o6 => cell_frozen (hmA o1 o2 o3 o4 o5 o6) 2
  have b3 : ∀ o1 o2 o3 o4 o5 o6, ((((((w1.alloc o1).alloc o2).alloc o3).alloc o4).alloc o5).alloc o6).frozen? ⟨s0, 3, none⟩ = false := fun o1 o2 o3 o4 o5 o6 => cell_frozen (hmA o1 o2 o3 o4 o5 o6) 3
  have HM1 := Lib.hid hm1
  have HE1 := Lib.hid hE1
  have HP1 := Lib.hid hp1
  have HP2 := Lib.hid hp2
  clear hm1 hmA hE1 hp1 hp2 hp3 hp4
  go_wp2
  obtain ⟨e1, e2, e3⟩ := example_fin (c1 := c1) (c2 := c2) (Nat.le_of_eq HS0.out.symm) (HE.out.trans HE1.out) HM1.out HP1.out HP2.out _ _ _ rfl
  exact exampleEnd06 e1 rfl rfl ⟨_, rfl, e2, e3⟩
end Go.Proofs.YtaoamnhchidjfaaDoor
