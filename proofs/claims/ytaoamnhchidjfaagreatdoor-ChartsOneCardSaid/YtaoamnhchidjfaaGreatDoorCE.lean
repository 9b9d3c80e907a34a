
/- Charts: the chapter's example. Charts: the numbers of the chapter's example. Charts: the walk of works. -/
import Derived.Test.YtaoamnhchidjfaaGreatDoorCD
import Derived.Test.YtaoamnhchidjfaaGreatDoorCC
import Derived.Test.YtaoamnhchidjfaaGreatDoorXJ
namespace Go.Proofs.YtaoamnhchidjfaaGreatDoor
open Go.RowKit

def exM2 : Mt := ⟨[(50, 52), (0, 0)], [], 0⟩
def exM3 : Mt := ⟨[(100, 100), (20, 20)], [], 0⟩
def exCh : Ch := ⟨[exM, exM2, exM3], [0, 0, 0], 0, 2⟩

theorem heap_quad {w : World} {b : Nat} {t : TypeId} {f : Nat × Nat} {a0 a1 a2 a3 x y z u : Value} (h : w.heap[b]? = some (.cells #[a0, a1, a2, a3] t f)) :
    ((((w.setCell ⟨b, 0, none⟩ x).setCell ⟨b, 1, none⟩ y).setCell ⟨b, 2, none⟩ z).setCell ⟨b, 3, none⟩ u).heap[b]? = some (.cells #[x, y, z, u] t f) := by
  exact heap_set (heap_set (heap_set (heap_set h rfl) rfl) rfl) rfl
theorem six_allocs' (w : World) (o1 o2 o3 o4 o5 o6 : Obj) : ((((((w.alloc o1).alloc o2).alloc o3).alloc o4).alloc o5).alloc o6).heap[w.heap.size + 1 + 1]? = some o3 ∧
    ((((((w.alloc o1).alloc o2).alloc o3).alloc o4).alloc o5).alloc o6).heap[w.heap.size + 1 + 1 + 1]? = some o4 ∧
    ((((((w.alloc o1).alloc o2).alloc o3).alloc o4).alloc o5).alloc o6).heap[w.heap.size + 1 + 1 + 1 + 1]? = some o5 ∧
    ((((((w.alloc o1).alloc o2).alloc o3).alloc o4).alloc o5).alloc o6).heap[w.heap.size + 1 + 1 + 1 + 1 + 1]? = some o6 := by
  refine ⟨heap_ext3 (heap_new3 w o1 o2 o3) ((((Ext.refl _).alloc o4).alloc o5).alloc o6), heap_ext3 (heap_new4 w o1 o2 o3 o4) (((Ext.refl _).alloc o5).alloc o6), heap_ext3 ?_ ((Ext.refl _).alloc o6), ?_⟩
  · have := heap_new4 (w.alloc o1) o2 o3 o4 o5
    rwa [size_alloc] at this
  · have := heap_new4 ((w.alloc o1).alloc o2) o3 o4 o5 o6
    rwa [size_alloc, size_alloc] at this
theorem six_allocs {w A : World} {o1 o2 o3 o4 o5 o6 : Obj} (hA : A = (((((w.alloc o1).alloc o2).alloc o3).alloc o4).alloc o5).alloc o6) : A.heap[w.heap.size + 1 + 1]? = some o3 ∧
    A.heap[w.heap.size + 1 + 1 + 1]? = some o4 ∧ A.heap[w.heap.size + 1 + 1 + 1 + 1]? = some o5 ∧ A.heap[w.heap.size + 1 + 1 + 1 + 1 + 1]? = some o6 := by
  rw [hA]
  exact six_allocs' w o1 o2 o3 o4 o5 o6
theorem PairsAt.off {w : World} {s0 : Nat} {t : TypeId} {p : Option Addr} {l : List (Int × Int)} (hm : w.heap[s0]? = some (.cells #[.slice none 0 0, .slice none 0 0, .int .i64 0, .int .i64 0] t)) (h : PairsAt w p l)
    {i : Nat} (hi : i < l.length) (hn : l[i].2 ≠ 0) : ∃ b o, p = some ⟨b, o, none⟩ ∧ b ≠ s0 := by
  obtain ⟨b, o, rfl, h1, h2⟩ := h i hi
  refine ⟨b, o, rfl, fun e => ?_⟩
  subst e
  rw [cell_of_heap hm] at h2
  rcases hk : (o + i * 2 + 1) with _ | _ | _ | _ | k
  all_goals rw [hk] at h2; simp at h2
  all_goals exact hn h2.symm
theorem exampleEnd06 {W : World} {s : Nat} {a : Act} {x0 x1 x2 x3 : Value} {ty : TypeId} {R : Ending → World → Prop} (hm : W.heap[s]? = some (.cells #[x0, x1, x2, x3] ty))
    (ha : a.tmps[0]? = some (.pointer (some ⟨s, 0, none⟩))) (hd : a.defers = [])
    (h : R (.returned (.agg #[x0, x1, x2, x3])) W) : bodyPost Tryz.prog Tryz.f55 R .ret a W := by
  have c0 := cell_of_heap hm 0
  have c1 := cell_of_heap hm 1
  have c2 := cell_of_heap hm 2
  have c3 := cell_of_heap hm 3
  simp at c0 c1 c2 c3
  refine bodyPost_ret (v := .agg #[x0, x1, x2, x3]) ?_ hd h
  cases a with
  | mk tm df =>
    simp only at ha
    simp [results, Tryz.results55, go_sem, ha, c0, c1, c2, c3]

theorem example_fin {w w1 : World} {s0 : Nat} {p1 p2 : Option Addr} {c1 c2 : Nat} (hs : w.heap.size ≤ s0) (hE : Ext w w1) (hm : w1.heap[s0]? = some (.cells #[.slice none 0 0, .slice none 0 0, .int .i64 0, .int .i64 0] 25))
    (hp1 : PairsAt w1 p1 exM.weeks) (hp2 : PairsAt w1 p2 exM.reads) (o1 o2 : Obj) (A : World)
    (hA : A = ((((((w1.alloc o1).alloc o2).alloc (.cells #[.int .i64 50, .int .i64 52, .int .i64 0, .int .i64 0] 36)).alloc (.cells #[.int .i64 100, .int .i64 100, .int .i64 20, .int .i64 20] 36)).alloc
      (.cells #[.slice p1 exM.weeks.length c1, .slice p2 exM.reads.length c2, .int .i64 exM.wrong, .slice (some ⟨w1.heap.size + 1 + 1, 0, none⟩) 2 2, .slice none 0 0, .int .i64 0, .slice (some ⟨w1.heap.size + 1 + 1 + 1, 0, none⟩) 2 2, .slice none 0 0, .int .i64 0] 55)).alloc
      (.cells #[.int .i64 0, .int .i64 0, .int .i64 0] 3))) :
    (((((A.setCell ⟨s0, 0, none⟩ (.slice (some ⟨w1.heap.size + 1 + 1 + 1 + 1, 0, none⟩) 3 3)).setCell ⟨s0, 1, none⟩ (.slice (some ⟨w1.heap.size + 1 + 1 + 1 + 1 + 1, 0, none⟩) 3 3)).setCell ⟨s0, 2, none⟩ (.int .i64 0)).setCell ⟨s0, 3, none⟩ (.int .i64 2)).heap[s0]?
      = some (.cells #[.slice (some ⟨w1.heap.size + 1 + 1 + 1 + 1, 0, none⟩) 3 3, .slice (some ⟨w1.heap.size + 1 + 1 + 1 + 1 + 1, 0, none⟩) 3 3, .int .i64 0, .int .i64 2] 25)) ∧
    Ext w ((((A.setCell ⟨s0, 0, none⟩ (.slice (some ⟨w1.heap.size + 1 + 1 + 1 + 1, 0, none⟩) 3 3)).setCell ⟨s0, 1, none⟩ (.slice (some ⟨w1.heap.size + 1 + 1 + 1 + 1 + 1, 0, none⟩) 3 3)).setCell ⟨s0, 2, none⟩ (.int .i64 0)).setCell ⟨s0, 3, none⟩ (.int .i64 2)) ∧
    ChV ((((A.setCell ⟨s0, 0, none⟩ (.slice (some ⟨w1.heap.size + 1 + 1 + 1 + 1, 0, none⟩) 3 3)).setCell ⟨s0, 1, none⟩ (.slice (some ⟨w1.heap.size + 1 + 1 + 1 + 1 + 1, 0, none⟩) 3 3)).setCell ⟨s0, 2, none⟩ (.int .i64 0)).setCell ⟨s0, 3, none⟩ (.int .i64 2))
      (.agg #[.slice (some ⟨w1.heap.size + 1 + 1 + 1 + 1, 0, none⟩) 3 3, .slice (some ⟨w1.heap.size + 1 + 1 + 1 + 1 + 1, 0, none⟩) 3 3, .int .i64 0, .int .i64 2]) exCh := by
  obtain ⟨z, hz⟩ : ∃ z, z = w1.heap.size := ⟨_, rfl⟩
  have hlt : s0 < z := by rw [hz]; exact (Array.getElem?_eq_some_iff.1 hm).1
  have hEA : Ext w1 A := by rw [hA]; exact ((((((Ext.refl w1).alloc _).alloc _).alloc _).alloc _).alloc _).alloc _
  have six := six_allocs hA
  rw [← hz] at six ⊢
  obtain ⟨i2, i3, i4, i5⟩ := six
  have hmA := heap_ext3 hm hEA
  have hpa1 := hp1.ext hEA
  have hpa2 := hp2.ext hEA
  obtain ⟨b1, u1, rfl, hb1⟩ := PairsAt.off hm hp1 (i := 0) (by decide) (by decide)
  obtain ⟨b2, u2, rfl, hb2⟩ := PairsAt.off hm hp2 (i := 0) (by decide) (by decide)
  obtain ⟨V, hV⟩ : ∃ V, V = (((A.setCell ⟨s0, 0, none⟩ (.slice (some ⟨z + 1 + 1 + 1 + 1, 0, none⟩) 3 3)).setCell ⟨s0, 1, none⟩ (.slice (some ⟨z + 1 + 1 + 1 + 1 + 1, 0, none⟩) 3 3)).setCell ⟨s0, 2, none⟩ (.int .i64 0)).setCell ⟨s0, 3, none⟩ (.int .i64 2) := ⟨_, rfl⟩
  have hfr : ∀ (b : Nat) (o : Obj), b ≠ s0 → A.heap[b]? = some o → V.heap[b]? = some o := fun b o hb h => by rw [hV]; exact heap_set_ne hb (heap_set_ne hb (heap_set_ne hb (heap_set_ne hb h)))
  have hF : Fr (fun k => k = s0) A V := by
    rw [hV]
    exact ((((Fr.refl (fun k => k = s0) A).set (c := s0) rfl).set (c := s0) rfl).set (c := s0) rfl).set (c := s0) rfl
  have hE' : Ext w V := by rw [hV]; exact Ext.setCell (p := ⟨s0, 3, none⟩) (Ext.setCell (p := ⟨s0, 2, none⟩) (Ext.setCell (p := ⟨s0, 1, none⟩) (Ext.setCell (p := ⟨s0, 0, none⟩) (hE.trans hEA) hs _) hs _) hs _) hs _
  have hq : V.heap[s0]? = some (.cells #[.slice (some ⟨z + 1 + 1 + 1 + 1, 0, none⟩) 3 3, .slice (some ⟨z + 1 + 1 + 1 + 1 + 1, 0, none⟩) 3 3, .int .i64 0, .int .i64 2] 25) := by rw [hV]; exact heap_quad hmA
  rw [← hV]
  have k2 : V.heap[z + 1 + 1]? = some (.cells (pairVs exM2.weeks).toArray 36) := hfr _ _ (by omega) i2
  have k3 : V.heap[z + 1 + 1 + 1]? = some (.cells (pairVs exM3.weeks).toArray 36) := hfr _ _ (by omega) i3
  have k4 := hfr _ _ (by omega) i4
  have k5 := hfr _ _ (by omega) i5
  refine ⟨hq, hE', _, _, _, _, rfl, ?_, ?_⟩
  · intro i hi
    rcases i with _ | _ | _ | i
    · exact ⟨_, _, _, _, _, _, rfl, cell_of_heap k4 0, cell_of_heap k4 1, cell_of_heap k4 2, hpa1.fr hF hb1, hpa2.fr hF hb2⟩
    · exact ⟨_, _, _, _, _, _, rfl, cell_of_heap k4 3, cell_of_heap k4 4, cell_of_heap k4 5, PairsAt.cells (l := exM2.weeks) k2, fun i hi => absurd hi (by simp [exCh, exM2])⟩
    · exact ⟨_, _, _, _, _, _, rfl, cell_of_heap k4 6, cell_of_heap k4 7, cell_of_heap k4 8, PairsAt.cells (l := exM3.weeks) k3, fun i hi => absurd hi (by simp [exCh, exM3])⟩
    · exact absurd hi (by simp [exCh])
  · intro i hi
    rcases i with _ | _ | _ | i
    · exact ⟨_, _, _, rfl, cell_of_heap k5 0, rfl⟩
    · exact ⟨_, _, _, rfl, cell_of_heap k5 1, rfl⟩
    · exact ⟨_, _, _, rfl, cell_of_heap k5 2, rfl⟩
    · exact absurd hi (by simp [exCh])

set_option maxRecDepth 20000 in
set_option maxHeartbeats 1600000 in
theorem Example06 (w : World) : Calls Tryz.prog 55 #[] w (fun e w' => ∃ v, e = .returned v ∧ Ext w w' ∧ ChV w' v exCh) := by
  have HX := Lib.hid (fun x : World => Example04 x)
  go_enter Tryz.func55, Tryz.ntmps55
  go_upto_region 1 with (fail)
  obtain ⟨s0, hs0⟩ : ∃ s0, s0 = w.heap.size := ⟨_, rfl⟩
  obtain ⟨W, hW⟩ : ∃ W, W = w.alloc (.cells #[.slice none 0 0, .slice none 0 0, .int .i64 0, .int .i64 0] 25) := ⟨_, rfl⟩
  have m0 : W.heap[s0]? = some (.cells #[.slice none 0 0, .slice none 0 0, .int .i64 0, .int .i64 0] 25) := by rw [hs0, hW]; exact heap_new _ _
  have HE : Hid (Ext w W) := Lib.hid (by rw [hW]; exact Ext.alloc (Ext.refl _) _)
  rw [← hs0, ← hW]
  have HM0 := Lib.hid m0
  have HS0 := Lib.hid hs0
  clear m0 hW hs0
  go_upto_region 2 with (go_at_call 95; refine (HX.out _).mono ?_; rintro e w1 ⟨u, v, rfl, hE1, hu, hv⟩; obtain ⟨p1, c1, p2, c2, rfl, hp1, hp2⟩ := hu; obtain ⟨p3, c3, p4, c4, rfl, hp3, hp4⟩ := hv)
  have hm1 := heap_ext3 HM0.out hE1
  have hmA := fun o1 o2 o3 o4 o5 o6 => heap_ext3 hm1 ((((((Ext.refl w1).alloc o1).alloc o2).alloc o3).alloc o4).alloc o5 |>.alloc o6)
  have d0 : ∀ o1 o2 o3 o4 o5 o6, ((((((w1.alloc o1).alloc o2).alloc o3).alloc o4).alloc o5).alloc o6).cell? ⟨s0, 0, none⟩ = some (.slice none 0 0) := fun o1 o2 o3 o4 o5 o6 => cell_of_heap (hmA o1 o2 o3 o4 o5 o6) 0
  have d1 : ∀ o1 o2 o3 o4 o5 o6, ((((((w1.alloc o1).alloc o2).alloc o3).alloc o4).alloc o5).alloc o6).cell? ⟨s0, 1, none⟩ = some (.slice none 0 0) := fun o1 o2 o3 o4 o5 o6 => cell_of_heap (hmA o1 o2 o3 o4 o5 o6) 1
  have d2 : ∀ o1 o2 o3 o4 o5 o6, ((((((w1.alloc o1).alloc o2).alloc o3).alloc o4).alloc o5).alloc o6).cell? ⟨s0, 2, none⟩ = some (.int .i64 0) := fun o1 o2 o3 o4 o5 o6 => cell_of_heap (hmA o1 o2 o3 o4 o5 o6) 2
  have d3 : ∀ o1 o2 o3 o4 o5 o6, ((((((w1.alloc o1).alloc o2).alloc o3).alloc o4).alloc o5).alloc o6).cell? ⟨s0, 3, none⟩ = some (.int .i64 0) := fun o1 o2 o3 o4 o5 o6 => cell_of_heap (hmA o1 o2 o3 o4 o5 o6) 3
  have b0 : ∀ o1 o2 o3 o4 o5 o6, ((((((w1.alloc o1).alloc o2).alloc o3).alloc o4).alloc o5).alloc o6).frozen? ⟨s0, 0, none⟩ = false := fun o1 o2 o3 o4 o5 o6 => cell_frozen (hmA o1 o2 o3 o4 o5 o6) 0
  have b1 : ∀ o1 o2 o3 o4 o5 o6, ((((((w1.alloc o1).alloc o2).alloc o3).alloc o4).alloc o5).alloc o6).frozen? ⟨s0, 1, none⟩ = false := fun o1 o2 o3 o4 o5 o6 => cell_frozen (hmA o1 o2 o3 o4 o5 o6) 1
  have b2 : ∀ o1 o2 o3 o4 o5 o6, ((((((w1.alloc o1).alloc o2).alloc o3).alloc o4).alloc o5).alloc o6).frozen? ⟨s0, 2, none⟩ = false := fun o1 o2 o3 o4 o5 o6 => cell_frozen (hmA o1 o2 o3 o4 o5 o6) 2
  have b3 : ∀ o1 o2 o3 o4 o5 o6, ((((((w1.alloc o1).alloc o2).alloc o3).alloc o4).alloc o5).alloc o6).frozen? ⟨s0, 3, none⟩ = false := fun o1 o2 o3 o4 o5 o6 => cell_frozen (hmA o1 o2 o3 o4 o5 o6) 3
  have HM1 := Lib.hid hm1
  have HE1 := Lib.hid hE1
  have HP1 := Lib.hid hp1
  have HP2 := Lib.hid hp2
  clear hm1 hmA hE1 hp1 hp2 hp3 hp4
  go_wp2
  obtain ⟨e1, e2, e3⟩ := example_fin (c1 := c1) (c2 := c2) (Nat.le_of_eq HS0.out.symm) (HE.out.trans HE1.out) HM1.out HP1.out HP2.out _ _ _ rfl
  exact exampleEnd06 e1 rfl rfl ⟨_, rfl, e2, e3⟩
end Go.Proofs.YtaoamnhchidjfaaGreatDoor
namespace Go.Proofs.YtaoamnhchidjfaaGreatDoor
open Go.RowKit

theorem sums_x2 : sumsL exM2 0 2 = [50, 51, 52] := by decide +kernel
theorem sums_x3 : sumsL exM3 0 2 = [120] := by decide +kernel
theorem valid_x2 : ValidM exM2 := (okB_iff _).1 (by decide)
theorem valid_x3 : ValidM exM3 := (okB_iff _).1 (by decide)
theorem least_x2 : leastN exM2 = 0 := by decide +kernel
theorem least_x3 : leastN exM3 = 0 := by decide +kernel
theorem ask_x2 : askV exM2 true = 0 := by rw [askV_t valid_x2, least_x2]; rfl
theorem ask_x3 : askV exM3 true = 0 := by rw [askV_t valid_x3, least_x3]; rfl
theorem row_of {C : Ch} {i : Nat} {M : Mt} {l : List Nat} (hC : ValidC C) (hM : mtC C i = M) (hv : ValidM M) (ht : C.tto ≤ M.weeks.length) (ha : askV M true = 0) (hx : exC C i = 0) (hl : sumsL M C.frm.toNat C.tto.toNat = l) :
    rowC C i = l.map fun n : Nat => (n : Int) := by
  unfold rowC
  rw [hM, hx, (sumsA_list hv (areB_iff.2 ⟨hC.f0, hC.ft, ht⟩) ha).1, hl, List.map_map]
  exact List.map_congr_left fun n _ => by simp
theorem valid_exCh : ValidC exCh := (okC_iff _).1 (by decide)
theorem some_exCh : someN exCh exCh.meters.length = false := by
  refine Bool.eq_false_iff.2 fun h => ?_
  unfold someN at h
  rw [List.any_eq_true] at h
  obtain ⟨i, hi, hb⟩ := h
  have hi' : i < 3 := List.mem_range.1 hi
  have hb' := bP_iff.1 hb
  have : i = 0 ∨ i = 1 ∨ i = 2 := by omega
  rcases this with rfl | rfl | rfl
  · exact hb' ask_exM
  · exact hb' ask_x2
  · exact hb' ask_x3
theorem tab_exCh : tabC exCh = [[40, 140], [50, 51, 52], [120]] := by
  have h0 : rowC exCh 0 = [40, 140] := row_of (M := exM) (l := [40, 140]) valid_exCh rfl valid_exM (by decide) ask_exM rfl sums_exM2
  have h1 : rowC exCh 1 = [50, 51, 52] := row_of (M := exM2) (l := [50, 51, 52]) valid_exCh rfl valid_x2 (by decide) ask_x2 rfl sums_x2
  have h2 : rowC exCh 2 = [120] := row_of (M := exM3) (l := [120]) valid_exCh rfl valid_x3 (by decide) ask_x3 rfl sums_x3
  show (List.range 3).map (rowC exCh) = _
  rw [show List.range 3 = [0, 1, 2] from rfl, List.map_cons, List.map_cons, List.map_cons, List.map_nil, h0, h1, h2]
theorem err_exCh : errC exCh true = 0 := errC_ok valid_exCh some_exCh
theorem sm_exCh : ChSm exCh := ⟨by decide, by decide, by decide⟩
theorem numsV_exCh : numsA exCh 0 = [40, 140] ∧ errT exCh 0 = 0 := by
  have e : errT exCh 0 = 0 := err_exCh
  refine ⟨?_, e⟩
  unfold numsA
  rw [askT_0 e, tab_exCh]
  rfl
theorem ord_exCh : (allO 3 (rowT [[40, 140], [50, 51, 52], [120]])).length = 2 := by decide +kernel
theorem rk_exCh : rkLo [[40, 140], [50, 51, 52], [120]] 2 = 1 ∧ rkHi [[40, 140], [50, 51, 52], [120]] 2 = 2 := by decide +kernel
theorem may_exCh : mayL [[40, 140], [50, 51, 52], [120]] 1 = [0, 2] := by decide +kernel
theorem need_exCh : IsNeed [[40, 140], [50, 51, 52], [120]] 1 1 91 := by
  have h90 : ¬NeedP [[40, 140], [50, 51, 52], [120]] 1 1 (50 + 90) := by unfold NeedP; decide +kernel
  refine ⟨by decide, by unfold NeedP; decide +kernel, fun m h0 h1 h => h90 (h.mono ?_)⟩
  have : loT [[40, 140], [50, 51, 52], [120]] 1 = 50 := rfl
  omega
theorem rkV_exCh : rankLoA exCh 2 = 1 ∧ rankHiA exCh 2 = 2 ∧ errT exCh 2 = 0 := by
  have e : errT exCh 2 = 0 := err_exCh
  unfold rankLoA rankHiA
  rw [e, okN_0 rfl, okN_0 rfl, tab_exCh, show (2 : Int).toNat = 2 from rfl, rk_exCh.1, rk_exCh.2]
  exact ⟨rfl, rfl, rfl⟩
theorem mayV_exCh : mayA exCh 1 = [0, 2] ∧ errF exCh 1 = 0 := by
  have e : errF exCh 1 = 0 := err_exCh
  unfold mayA
  rw [e, okL_0 rfl, tab_exCh, may_exCh]
  exact ⟨rfl, rfl⟩
theorem needV_exCh : needsA exCh 1 1 = 91 ∧ errN exCh 1 1 = 0 := by
  have e : errN exCh 1 1 = 0 := err_exCh
  unfold needsA
  rw [e, okN_0 rfl, tab_exCh, show (1 : Int).toNat = 1 from rfl, needV_eq need_exCh]
  exact ⟨rfl, rfl⟩
theorem ordV_exCh : ordersA exCh = 2 ∧ errC exCh true = 0 := by
  unfold ordersA
  rw [err_exCh, okN_0 rfl, tab_exCh, show exCh.meters.length = 3 from rfl, ord_exCh]
  exact ⟨rfl, rfl⟩
end Go.Proofs.YtaoamnhchidjfaaGreatDoor
namespace Go.Proofs.YtaoamnhchidjfaaGreatDoor
open Go.RowKit

theorem ExtW.callN {a : World} {P : Program} {f : FuncId} {args : Array Value} {l : List Int} {n : Int} {x : ExtW a} (h : Calls P f args x.w (RetN l n x.w)) :
    Calls P f args x.w fun e w'' => ∃ (p : Option Addr) (c : Nat), e = .returned (.tuple #[.slice p l.length c, .int .i64 n]) ∧ ∃ y : ExtW a, w'' = y.w ∧ Ext x.w y.w ∧ IntsAt y.w p l := by
  refine h.mono fun _ w'' ⟨p, c, he, hI, hE⟩ => ?_
  exact ⟨p, c, he, ⟨w'', x.h.trans hE⟩, rfl, hE, hI⟩

set_option maxRecDepth 20000 in
set_option maxHeartbeats 4000000 in
theorem works06 (w : World) (hT : TabW w) : Calls Tryz.prog 12 #[] w (RetE (.bool true) w) := by
  have HT := Lib.hid hT
  clear hT
  go_enter Tryz.func12, Tryz.ntmps12
  go_wp2_with fail
  refine (Example06 w).mono ?_
  rintro e w1 ⟨v, rfl, hE1, ⟨p, c, q, d, rfl, hp, hq⟩⟩
  have HE1 := Lib.hid hE1
  have HV1 := Lib.hid (show ∀ y, Ext w1 y → ChV y (.agg #[.slice p exCh.meters.length c, .slice q exCh.extra.length d, .int .i64 exCh.frm, .int .i64 exCh.tto]) exCh from fun y h => ⟨p, c, q, d, rfl, hp.ext h, hq.ext h⟩)
  clear hE1 hp hq
  go_upto_region 2 with (fail)
  obtain ⟨s1, hs1⟩ : ∃ s1, s1 = w1.heap.size := ⟨_, rfl⟩
  obtain ⟨W, hW⟩ : ∃ W, W = w1.alloc (.cells #[.slice p exCh.meters.length c, .slice q exCh.extra.length d, .int .i64 exCh.frm, .int .i64 exCh.tto] 25) := ⟨_, rfl⟩
  have m1 : W.heap[s1]? = some (.cells #[.slice p exCh.meters.length c, .slice q exCh.extra.length d, .int .i64 exCh.frm, .int .i64 exCh.tto] 25) := by rw [hs1, hW]; exact heap_new _ _
  have hE : Ext w1 W := by rw [hW]; exact Ext.alloc (Ext.refl _) _
  rw [← hs1, ← hW]
  have a0 := ExtW.cell (v := .slice p exCh.meters.length c) (cell_of_heap m1 0)
  have a1 := ExtW.cell (v := .slice q exCh.extra.length d) (cell_of_heap m1 1)
  have a2 := ExtW.cell (v := .int .i64 exCh.frm) (cell_of_heap m1 2)
  have a3 := ExtW.cell (v := .int .i64 exCh.tto) (cell_of_heap m1 3)
  have HM1 := Lib.hid m1
  have HE := Lib.hid (HE1.out.trans hE)
  have HVW := Lib.hid (fun y (h : Ext W y) => HV1.out y (hE.trans h))
  have HTW := Lib.hid (HT.out.ext (HE1.out.trans hE))
  have HNU := Lib.hid (fun x : ExtW W => ExtW.callN (l := [40, 140]) (n := 0) (x := x) (by
    have h := Numbers06 exCh 0 _ x.w (HVW.out x.w x.h) sm_exCh (HTW.out.ext x.h)
    rw [numsV_exCh.1, numsV_exCh.2] at h
    exact h))
  have HRK := Lib.hid (fun x : ExtW W => ExtW.callX (v := .tuple #[.agg #[.int .i64 1, .int .i64 2], .int .i64 0]) (x := x) (by
    have h := Rank06 exCh 2 _ x.w (HVW.out x.w x.h) sm_exCh (HTW.out.ext x.h)
    rw [rkV_exCh.1, rkV_exCh.2.1, rkV_exCh.2.2] at h
    exact h))
  obtain ⟨x0, hx0⟩ := ExtW.of (Ext.refl W)
  clear hW m1 hE hs1
  conv => arg 5; rw [hx0]
  clear hx0
  go_upto_region 4 with (first
    | (go_at_call 16; refine (HNU.out _).mono ?_; rintro e w2 ⟨pl, cl, rfl, x1, rfl, hE2, hl2⟩)
    | (go_at_call 18; refine (HRK.out _).mono ?_; rintro e w2 ⟨rfl, x2, rfl, hE3⟩))
  obtain ⟨s3, hs3⟩ : ∃ s3, s3 = x2.w.heap.size := ⟨_, rfl⟩
  obtain ⟨W3, hW3⟩ : ∃ W3, W3 = x2.w.alloc (.cells #[.int .i64 1, .int .i64 2] 36) := ⟨_, rfl⟩
  have hE3' : Ext W W3 := by rw [hW3]; exact x2.h.alloc _
  have m1 := heap_ext3 HM1.out hE3'
  have m3 : W3.heap[s3]? = some (.cells #[.int .i64 1, .int .i64 2] 36) := by rw [hW3, hs3]; exact heap_new _ _
  rw [← hs3, ← hW3]
  have HL := Lib.hid (show IntsAt W3 pl [40, 140] from by rw [hW3]; exact (hl2.ext hE3).ext (Ext.alloc (Ext.refl _) _))
  clear hW3 hE2 hl2 hE3 hs3 a0 a1 a2 a3 HNU HRK
  have a0 := ExtW.cell (v := .slice p exCh.meters.length c) (cell_of_heap m1 0)
  have a1 := ExtW.cell (v := .slice q exCh.extra.length d) (cell_of_heap m1 1)
  have a2 := ExtW.cell (v := .int .i64 exCh.frm) (cell_of_heap m1 2)
  have a3 := ExtW.cell (v := .int .i64 exCh.tto) (cell_of_heap m1 3)
  have HM3 := Lib.hid m3
  have HE3 := Lib.hid hE3'
  have HMA := Lib.hid (fun x : ExtW W3 => ExtW.callL (l := [0, 2]) (n := 0) (x := x) (by
    have h := May06 exCh 1 _ x.w (HVW.out x.w (hE3'.trans x.h)) sm_exCh (HTW.out.ext (hE3'.trans x.h)) (by decide)
    rw [mayV_exCh.1, mayV_exCh.2] at h
    exact h))
  have HND := Lib.hid (fun x : ExtW W3 => ExtW.callX (v := .tuple #[.int .i64 91, .int .i64 0]) (x := x) (by
    have h := Needs06 exCh 1 1 _ x.w (HVW.out x.w (hE3'.trans x.h)) sm_exCh (HTW.out.ext (hE3'.trans x.h)) (by decide)
    rw [needV_exCh.1, needV_exCh.2] at h
    exact h))
  have HOR := Lib.hid (fun x : ExtW W3 => ExtW.callX (v := .tuple #[.int .i64 2, .int .i64 0]) (x := x) (by
    have h := Orders06 exCh _ x.w (HVW.out x.w (hE3'.trans x.h)) sm_exCh (HTW.out.ext (hE3'.trans x.h))
    rw [ordV_exCh.1, ordV_exCh.2] at h
    exact h))
  obtain ⟨y0, hy0⟩ := ExtW.of (Ext.refl W3)
  clear m1 m3 hE3'
  conv => arg 5; rw [hy0]
  clear hy0
  go_upto_region 7 with (first
    | (go_at_call 30; refine (HMA.out _).mono ?_; rintro e w2 ⟨pm, cm, rfl, y1, rfl, hEm, hlm, -⟩)
    | (go_at_call 40; refine (HND.out _).mono ?_; rintro e w2 ⟨rfl, y2, rfl, hEn⟩)
    | (go_at_call 34; refine (HOR.out _).mono ?_; rintro e w2 ⟨rfl, y3, rfl, hEo⟩))
  obtain ⟨W7, hW7⟩ : ∃ W7, W7 = y3.w := ⟨_, rfl⟩
  have hE7 : Ext W3 W7 := by rw [hW7]; exact y3.h
  have m3 := heap_ext3 HM3.out hE7
  have HLM := Lib.hid (show IntsAt W7 pm [0, 2] from by rw [hW7]; exact (hlm.ext hEn).ext hEo)
  have HLN := Lib.hid (HL.out.ext hE7)
  rw [← hW7]
  have HE7 := Lib.hid (HE.out.trans (HE3.out.trans hE7))
  have c0 : W7.cell? ⟨s3, 0, none⟩ = some (.int .i64 1) := cell_of_heap m3 0
  have c1 : W7.cell? ⟨s3, 1, none⟩ = some (.int .i64 2) := cell_of_heap m3 1
  clear hW7 m3 hE7 HMA HND HOR hEm hlm hEn hEo a0 a1 a2 a3
  go_wp2_with fail
  have HA : Ext W7 (W7.alloc (.cells #[.int .i64 40, .int .i64 140] 3)) := Ext.alloc (Ext.refl _) _
  have hsi : Calls Tryz.prog 22 #[.slice pl 2 cl, .slice (some ⟨W7.heap.size, 0, none⟩) 2 2] (W7.alloc (.cells #[.int .i64 40, .int .i64 140] 3)) (RetE (.bool true) _) :=
    SameInts02 pl (some ⟨W7.heap.size, 0, none⟩) [40, 140] [40, 140] cl 2 _ (by decide) (by decide) (HLN.out.ext HA) (IntsAt.cells [40, 140] (heap_new W7 _))
  refine hsi.mono ?_
  rintro e w8 ⟨rfl, hE8⟩
  have g0 := (HA.trans hE8).cell c0
  have g1 := (HA.trans hE8).cell c1
  have HE8 := Lib.hid (HE7.out.trans (HA.trans hE8))
  have HLM8 := Lib.hid (HLM.out.ext (HA.trans hE8))
  clear c0 c1 HA hsi hE8
  go_wp2_with fail
  have HA : Ext w8 (w8.alloc (.cells #[.int .i64 0, .int .i64 2] 3)) := Ext.alloc (Ext.refl _) _
  have hsi : Calls Tryz.prog 22 #[.slice pm 2 cm, .slice (some ⟨w8.heap.size, 0, none⟩) 2 2] (w8.alloc (.cells #[.int .i64 0, .int .i64 2] 3)) (RetE (.bool true) _) :=
    SameInts02 pm (some ⟨w8.heap.size, 0, none⟩) [0, 2] [0, 2] cm 2 _ (by decide) (by decide) (HLM8.out.ext HA) (IntsAt.cells [0, 2] (heap_new w8 _))
  refine hsi.mono ?_
  rintro e w9 ⟨rfl, hE9⟩
  have HE9 := Lib.hid (HE8.out.trans (HA.trans hE9))
  clear HA hsi hE9 g0 g1
  go_wp2
  go_ret
  exact RetE.fin HE9.out rfl
end Go.Proofs.YtaoamnhchidjfaaGreatDoor
