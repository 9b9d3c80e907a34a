/- The walk of CopyPlan. -/
import Derived.Test.YtkcilgjkdiopnaaCp3
namespace Go.Proofs.Ytkcilgjkdiopnaa
open Go.RowKit

theorem one_wk (n : Int) (q : Option Addr) (a b : Nat) : ∀ u ∈ [Value.int .i64 n, Value.slice q a b], u.oneCell' = true := by
  intro u hu
  simp at hu
  rcases hu with rfl | rfl <;> rfl

set_option maxRecDepth 20000 in
set_option maxHeartbeats 3200000 in
theorem CopyPlan03 (pp : Option Addr) (l : List Wk) (pc : Nat) (w : World) (hl : l.length ≤ 1000) (hr : ∀ x ∈ l, x.recs.length ≤ 1000) (hp : WksAt w pp l) :
    Calls Try.prog 18 #[.slice pp l.length pc] w (fun e w' => ∃ v, e = .returned v ∧ Ext w w' ∧ PlanOwn w.heap.size w' v l) := by
  obtain ⟨i1, hi1, hz1, hy1, hb1⟩ := info_parts info_wk
  go_enter Try.func18, Try.ntmps18
  go_wp2
  go_loopw [3, 4] (fun v i wr => ∃ k : Nat, k ≤ l.length ∧ i = .int .i64 k ∧ Ext w wr ∧ PlanOwn w.heap.size wr v (l.take k)) (fun _ i _ => l.length - (intOf i).toNat)
  case atStart => exact ⟨0, by omega, rfl, Ext.refl _, PlanOwn.nil _ _⟩
  case round =>
    obtain ⟨k, hk, rfl, hE, hR⟩ := hrel
    by_cases hlt : k < l.length
    · obtain ⟨b, o, q', c', rfl, hc1, hc2, hi⟩ := hp k hlt
      have hrk := hr _ (List.getElem_mem hlt)
      obtain ⟨xs, hown, hwks⟩ := hR
      have hlk : (l.take k).length = k := by rw [List.length_take]; omega
      rw [hlk] at hown
      have HOWN := Lib.hid hown
      have HWKS := Lib.hid hwks
      have HE := Lib.hid hE
      have HI := Lib.hid hi
      have HS := Lib.hid (fun z (hz : Ext w z) => (⟨hz.cell hc1, hz.cell hc2⟩ : z.cell? ⟨b, o + k * 2, none⟩ = some (.int .i64 l[k].needle) ∧ z.cell? ⟨b, o + k * 2 + 1, none⟩ = some (.slice q' l[k].recs.length c')))
      have HLK := Lib.hid hlk
      clear hown hwks hi hc1 hc2 hlk hE
      go_upto_region 5 with (fail)
      refine wp_region_heldT (fun z => z.cell? ⟨b, o + k * 2, none⟩ = some (.int .i64 l[k].needle) ∧ z.cell? ⟨b, o + k * 2 + 1, none⟩ = some (.slice q' l[k].recs.length c')) 16
        [(true, 0), (true, 1), (true, 2), (true, 3), (true, 4), (true, 5), (true, 7), (true, 8), (true, 9), (true, 10), (true, 11), (false, 6), (false, 12), (true, 13), (false, 14), (false, 15)] (by kernel_rfl) (by kernel_rfl) (HS.out _ HE.out.drew) ?_
      simp only [List.map_cons, List.map_nil, List.getElem?_cons_zero, List.getElem?_cons_succ]
      repeat (refine wpHL_take (v := ?_) (by rfl) ?_ (fun _ _ _ h => h) ?_; rotate_left 1; (intro z hz; (try dsimp only at hz); go_simp; (try with_reducible rfl)); simp only [Act.put, List.setIfInBounds_toArray, List.set_cons_zero, List.set_cons_succ])
      refine wpHL_step (fun K hK => ?_)
      go_simp
      refine hK.out _ _ (HS.out _ (HE.out.drew.alloc _)) ?_
      clear hK K
      try simp only [Act.put, List.setIfInBounds_toArray, List.set_cons_zero, List.set_cons_succ]
      refine wpHL_step (fun K hK => ?_)
      refine step_row_of rfl (.tmp 17) (.tmp 22) rfl wr.drew.heap.size rfl (World.ownsRow_made wr.drew #[] 0 (Nat.le_refl _) (by decide) rfl) (by show wr.heap.size < (wr.alloc _).heap.size; rw [size_alloc]; exact Nat.lt_succ_self _) q' l[k].recs c' rfl (HI.out.ext (HE.out.drew.alloc _)) hrk ?_
      intro g1 cn1 w2 hown2 hgr2
      have hE2 : Ext wr w2 := Below.grown ((Ext.refl wr).drew.alloc _) hgr2 (by rw [size_alloc]; show _ ≤ wr.heap.size + 1; omega) (fun j hj => by cases hj; exact Nat.le_refl _)
      refine hK.out _ _ (HS.out _ (HE.out.trans hE2)) ?_
      clear hK K
      have HE2 := Lib.hid hE2
      have HO2 := Lib.hid hown2
      clear hown2 hgr2 hE2
      try simp only [Act.put, List.setIfInBounds_toArray, List.set_cons_zero, List.set_cons_succ]
      repeat (refine wpHL_take (v := ?_) (by rfl) ?_ (fun _ _ _ h => h) ?_; rotate_left 1; (intro z hz; (try dsimp only at hz); go_simp; (try with_reducible rfl)); simp only [Act.put, List.setIfInBounds_toArray, List.set_cons_zero, List.set_cons_succ])
      refine wpHL_step (fun K hK => ?_)
      go_simp
      refine hK.out _ _ (HS.out _ ((HE.out.trans HE2.out).alloc _)) ?_
      clear hK K
      try simp only [Act.put, List.setIfInBounds_toArray, List.set_cons_zero, List.set_cons_succ]
      refine wpHL_step (fun K hK => ?_)
      refine step_append_lies _ rfl (.tmp 11) (.tmp 25) 26 rfl w.heap.size 61 i1 _ 2 32 Try.underlying26 hi1 hz1 hy1 hb1 rfl (by decide) _ k xs rfl ((ownsRow_ext HOWN.out HE2.out).alloc _) ⟨w2.heap.size, 0, none⟩ 1 1 [.int .i64 l[k].needle, .slice (some ⟨g1, 0, none⟩) l[k].recs.length cn1] rfl rfl (hnews2 (Ext.refl _) rfl) (one_wk _ _ _ _) (by decide) (by unfold maxLen; omega) (by omega) (by rw [size_alloc]; have := HE.out.size; have := HE2.out.size; omega) (w2.heap.size + 1) (size_alloc _ _) ?_
      intro g4 cap4 w4 hown4 hgr4 hat4 hlt4
      have hws := HE.out.size
      have hws2 := HE2.out.size
      have hvb : ∀ j, Value.ownBlock _ = some j → w.heap.size ≤ j ∧ j < wr.heap.size := fun j hj => HOWN.out.lt j hj
      have hE4 : Ext w w4 := Below.grown ((HE.out.trans HE2.out).alloc _) hgr4 (by rw [size_alloc]; omega) (fun j hj => (hvb j hj).1)
      have hg1 : wr.heap.size ≤ g1 := (HO2.out.lt g1 rfl).1
      have hst : WksR w.heap.size w4 (some g4) _ (l.take k ++ [l[k]]) := WksR.step (W := w2.alloc _) (HWKS.out.fr ((HE2.out.alloc _).fr (fun _ => False)) (fun _ _ h => h.elim)) (by rw [HOWN.out.1, HLK.out]) hgr4 (by rw [size_alloc]; exact hat4) (mp := some ⟨g1, 0, none⟩) (mc := cn1) ((row_ints HO2.out).ext (Ext.alloc (Ext.refl _) _)) (fun a ha => by cases ha; show w.heap.size ≤ g1; omega) (fun a ha _ e => by cases ha; have := (hvb g1 e).2; omega)
      rw [← List.take_succ_eq_append_getElem hlt] at hst
      have hres : PlanOwn w.heap.size w4 (.slice (some ⟨g4, 0, none⟩) (k + 1) cap4) (l.take (k + 1)) := ⟨_, by rw [show (l.take (k + 1)).length = k + 1 from by rw [List.length_take]; omega]; exact hown4, hst⟩
      have HRES := Lib.hid hres
      have HE4 := Lib.hid hE4
      refine hK.out _ _ (HS.out _ hE4) ?_
      clear hK K hres hst hE4 hvb hown4 hgr4 hat4 hlt4 HOWN HWKS HO2 HE2
      try simp only [Act.put, List.setIfInBounds_toArray, List.set_cons_zero, List.set_cons_succ]
      refine wpHL_nil ?_
      simp only [List.drop_succ_cons, List.drop_zero]
      go_wp2
      go_roundw
      case rel => exact ⟨k + 1, by omega, by go_num, HE4.out, HRES.out⟩
      case measure => simp [intOf]; omega
    · obtain rfl : k = l.length := by omega
      rw [List.take_length] at hR
      have HR := Lib.hid hR
      clear hR
      go_wp2
      go_ret
      exact ⟨_, rfl, hE, HR.out⟩
end Go.Proofs.Ytkcilgjkdiopnaa
